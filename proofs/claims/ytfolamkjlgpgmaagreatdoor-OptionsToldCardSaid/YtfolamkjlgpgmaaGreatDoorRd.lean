/- Several texts in one: Rd, RdM, RdK. No condition beyond those that each part names. -/
import Derived.Test.YtfolamkjlgpgmaaGreatDoorTellU
import Derived.Laws.IdiomCopy
import Derived.Lib.SlBuf
/- The document's readers of an option's data: numbers, noughts. No condition but that the bytes are bytes. -/
namespace Go.Proofs.YtfolamkjlgpgmaaGreatDoor
open Go.RowKit
set_option linter.unusedVariables false
set_option linter.unusedSimpArgs false
theorem u32_fits {m : Nat} (h : m < 4294967296) : IntKind.u32.wrap (m : Int) = (m : Int) := by
  simp [IntKind.wrap, IntKind.signed, IntKind.bits]; omega
theorem beN_take {l : List Nat} {k x : Nat} (h : l[k]? = some x) : beN (l.take (k + 1)) = beN (l.take k) * 256 + x := by
  rw [take_one h, beN_snoc]
theorem num_step {v x : Nat} (hv : v < 16777216) (hx : x < 256) : (256 * (v : Int) % 4294967296 + (x : Int)) % 4294967296 = ((v * 256 + x : Nat) : Int) := by omega
set_option maxRecDepth 100000 in
set_option maxHeartbeats 1000000 in
theorem num36 {A : Option Addr} {c B : Nat} {l : List Nat} (w : World) (h : RdL w B A l) (h4 : 4 ≤ l.length) (h256 : ∀ x ∈ l, x < 256) :
    Calls Tryz.prog 36 #[.slice A l.length c] w fun e w' => e = .returned (.int .u32 (beN (l.take 4) : Nat)) ∧ w = w' := by
  obtain ⟨b, o, rfl, hb, hc⟩ := h (by rintro rfl; simp at h4)
  obtain ⟨n, hn⟩ : ∃ n, l.length = n := ⟨_, rfl⟩
  have HN := Lib.hid hn; have HC := Lib.hid hc; have H256 := Lib.hid h256
  rw [hn] at h4 ⊢
  clear h hn hc h256
  go_enter Tryz.func36, Tryz.ntmps36
  go_wp2_with fail
  go_loopw [3, 4] (fun v i wr => ∃ k : Nat, k ≤ 4 ∧ v = .int .u32 (beN (l.take k) : Nat) ∧ i = .int .i64 k ∧ wr = w) (fun _ i _ => 4 - (intOf i).toNat)
  case atStart => exact ⟨0, Nat.zero_le _, rfl, rfl, rfl⟩
  case round =>
    obtain ⟨k, hk, rfl, rfl, rfl⟩ := hrel
    by_cases hlt : k < 4
    · obtain ⟨x, hx⟩ : ∃ x, l[k]? = some x := ⟨l[k]'(by rw [HN.out]; omega), List.getElem?_eq_getElem _⟩
      have c1 := HC.out k x hx
      have hx256 := H256.out x (List.mem_of_getElem? hx)
      have hv : beN (l.take k) < 16777216 := by
        have h1 := beN_lt (l := l.take k) (k := 3) (fun y hy => H256.out y (List.mem_of_mem_take hy)) (by rw [List.length_take]; omega)
        omega
      have HS := Lib.hid (beN_take hx)
      have t1 : (k : Int) < 4 := by omega
      have hs : IntKind.u32.wrap (x : Int) = (x : Int) := u32_fits (by omega)
      obtain ⟨v, hvv⟩ : ∃ v, v = beN (l.take k) := ⟨_, rfl⟩
      rw [← hvv] at hv HS ⊢
      have HE := Lib.hid (num_step hv hx256)
      clear hvv hv hx hx256
      go_wp2_with fail
      go_roundw
      case rel => exact ⟨k + 1, by omega, by rw [HS.out, ← HE.out], by go_num, trivial⟩
      case measure => simp [intOf]; omega
    · obtain rfl : k = 4 := by omega
      go_wp2_with fail
      go_ret
      exact ⟨rfl, rfl⟩
set_option maxRecDepth 100000 in
set_option maxHeartbeats 1000000 in
theorem noughts51 {A : Option Addr} {c B : Nat} {l : List Nat} (w : World) (h : RdL w B A l) (hl : l.length ≤ 1000000000) :
    Calls Tryz.prog 51 #[.slice A l.length c] w fun e w' => e = .returned (.bool (l.all (· == 0))) ∧ w = w' := by
  obtain ⟨n, hn⟩ : ∃ n, l.length = n := ⟨_, rfl⟩
  have HN := Lib.hid hn; have HC := Lib.hid h
  rw [hn] at hl ⊢
  clear h hn
  go_enter Tryz.func51, Tryz.ntmps51
  go_wp2_with fail
  go_loopw [3] (fun i wr => ∃ k : Nat, k ≤ n ∧ i = .int .i64 k ∧ (l.take k).all (· == 0) = true ∧ wr = w) (fun i _ => n - (intOf i).toNat)
  case atStart => exact ⟨0, Nat.zero_le _, rfl, rfl, rfl⟩
  case round =>
    obtain ⟨k, hk, rfl, ha, rfl⟩ := hrel
    have HA := Lib.hid ha
    clear ha
    by_cases hlt : k < n
    · obtain ⟨x, hx⟩ : ∃ x, l[k]? = some x := ⟨l[k]'(by rw [HN.out]; omega), List.getElem?_eq_getElem _⟩
      obtain ⟨b, o, rfl, hb, hc⟩ := HC.out (by rintro rfl; simp at hx)
      have c1 := hc k x hx
      have HX := Lib.hid hx
      clear hx hc
      by_cases hx0 : x = 0
      · subst hx0
        have t1 : (((0 : Nat) : Int) != 0) = false := by decide
        go_wp2_with fail
        go_roundw
        case rel => exact ⟨k + 1, by omega, by go_num, by rw [take_one HX.out, List.all_append, HA.out]; rfl, trivial⟩
        case measure => simp [intOf]; omega
      · have t1 : ((x : Int) != 0) = true := by rw [bne_iff_ne]; omega
        have HF : Hid (l.all (· == 0) = false) := Lib.hid (by
          rw [List.all_eq_false]
          exact ⟨x, List.mem_of_getElem? HX.out, by simpa using hx0⟩)
        go_wp2_with fail
        go_ret
        exact ⟨by rw [HF.out]; rfl, rfl⟩
    · obtain rfl : k = n := by omega
      have HF : Hid (l.all (· == 0) = true) := Lib.hid (by
        have := HA.out
        rwa [List.take_of_length_le (by rw [HN.out]; exact Nat.le_refl _)] at this)
      go_wp2_with fail
      go_ret
      exact ⟨by rw [HF.out]; rfl, rfl⟩
end Go.Proofs.YtfolamkjlgpgmaaGreatDoor

/- The document's readers of an option: an address of the link, the greatest packet. No condition but that the bytes are bytes. (Printed by gRdM.py.) -/
namespace Go.Proofs.YtfolamkjlgpgmaaGreatDoor
open Go.RowKit
set_option linter.unusedVariables false
set_option linter.unusedSimpArgs false
theorem slice_drop {w : World} {B : Nat} {b o k : Nat} {l : List Nat} (h : RdL w B (some ⟨b, o, none⟩) l) (hk : k ≤ l.length) : RdL w B (some ⟨b, o + k, none⟩) (l.drop k) := fun hne => by
  obtain ⟨b', o', e, hb, hc⟩ := h (by rintro rfl; simp at hne)
  cases e
  refine ⟨b, o + k, rfl, hb, fun j x hx => ?_⟩
  rw [List.getElem?_drop] at hx
  rw [Nat.add_assoc]
  exact hc _ _ hx
theorem results_tmp2 {P : Program} {fn : Func} {a b : Tmp} (h : fn.results = #[.tmp a, .tmp b]) (tmps : Array Value) (w : World) : (results fn tmps).run P w = .ok (.tuple #[tmps.getD a undef, tmps.getD b undef]) w := by
  simp [results, h]
theorem results_tmp3 {P : Program} {fn : Func} {a b c : Tmp} (h : fn.results = #[.tmp a, .tmp b, .tmp c]) (tmps : Array Value) (w : World) : (results fn tmps).run P w = .ok (.tuple #[tmps.getD a undef, tmps.getD b undef, tmps.getD c undef]) w := by
  simp [results, h]
theorem macC_row {l : List Nat} (h : l.length = 6) : (row8 l).toArray = macC l := by
  match l, h with
  | [a, b, c, d, e, f], _ => simp [row8, macC]
theorem copy_all {w : World} {q b o c m T B : Nat} {l : List Nat} {cur : Array Value} (hq : w.heap[q]? = some (.cells cur T (0, 0))) (hs : cur.size = m) (hl : m ≤ l.length) (h : RdL w B (some ⟨b, o, none⟩) l) (hm : 0 < m) :
    (Builtin.copy_ #[22, 22] 3 #[.slice (some ⟨q, 0, none⟩) m m, .slice (some ⟨b, o, none⟩) l.length c]).run Tryz.prog w = .ok (goInt m) (w.setRow q (row8 (l.take m)).toArray) := by
  obtain ⟨b', o', e, hb, hc⟩ := h (by rintro rfl; simp at hl; omega)
  cases e
  have e1 : (row8 (l.take m)).length = m := by rw [row8_length, List.length_take]; omega
  have h1 := run_copy_row Tryz.prog w 22 22 3 5 q 0 m m ⟨b, o, none⟩ l.length c cur T (row8 (l.take m)) Tryz.underlying22 (by kernel_rfl) hq (by rw [e1]; exact (Nat.min_eq_right hl).symm) (fun j v hj => by
    obtain ⟨x, hx, rfl⟩ := row8_inv hj
    have hjm : j < m := by have := (List.getElem?_eq_some_iff.1 hx).1; rw [List.length_take] at this; omega
    rw [List.getElem?_take_of_lt hjm] at hx
    rw [Addr.add_mid]
    exact hc j x hx) (by rw [e1]; omega) (row8_one _)
  rw [h1, e1]
  have e2 : (cur.toList.take 0 ++ row8 (l.take m) ++ cur.toList.drop (0 + m)).toArray = (row8 (l.take m)).toArray := by
    rw [List.take_zero, List.nil_append, List.drop_of_length_le (by simp; omega), List.append_nil]
  rw [e2]
theorem num2 (l : List Nat) (k : Nat) : beN ((l.drop k).take 4) = num1 l k 4 := rfl
set_option maxRecDepth 100000 in
set_option maxHeartbeats 2000000 in
theorem mtu11 {kd : Nat} {A : Option Addr} {c : Nat} {l : List Nat} (w : World) (h : Bs w w.heap.size A c l) (hl : l.length ≤ 1000000000) (h256 : ∀ x ∈ l, x < 256) :
    Calls Tryz.prog 11 #[.agg #[.int .u8 (kd : Int), .slice A l.length c]] w fun e w' => e = .returned (.tuple #[.int .u32 ((if l.length = 6 ∧ (kd == 5) = true then num1 l 2 4 else 0 : Nat) : Int), .bool (decide (l.length = 6 ∧ (kd == 5) = true))]) ∧ Below w.heap.size w w' := by
  have hb1 : Below w.heap.size w (w.alloc (.cells #[.int .u8 (kd : Int), .slice A l.length c] 24)) := (Below.refl _ _).alloc (Nat.le_refl _) _
  have HB1 := Lib.hid hb1
  obtain ⟨V, hV⟩ : ∃ V, V = w.alloc (.cells #[.int .u8 (kd : Int), .slice A l.length c] 24) := ⟨_, rfl⟩
  rw [← hV] at HB1 hb1
  have HR : Hid (l.length = 6 → ∃ b o, A = some ⟨b, o, none⟩ ∧ Calls Tryz.prog 36 #[.slice (some ⟨b, o + 2, none⟩) (6 - 2) (c - 2)] V fun e w' => e = .returned (.int .u32 (num1 l 2 4 : Nat)) ∧ V = w') := Lib.hid (fun e => by
    obtain ⟨b, o, e2, hb, hc⟩ := h.rd (by rintro rfl; simp at e)
    subst e2
    refine ⟨b, o, rfl, ?_⟩
    have := num36 (c := c - 2) V (slice_drop (h.rd.below hb1) (k := 2) (by omega)) (by rw [List.length_drop, e]; decide) (fun x hx => h256 x (List.mem_of_mem_drop hx))
    rwa [List.length_drop, e] at this)
  have hcap := h.cap
  obtain ⟨n, hn⟩ : ∃ n, l.length = n := ⟨_, rfl⟩
  rw [hn] at HR hl hcap hV ⊢
  have HN := Lib.hid hn
  clear h h256 hb1 hn
  go_enter Tryz.func11, Tryz.ntmps11
  by_cases h5 : kd = 5
  · have t0 : ((kd : Int) != 5) = false := by rw [bne_eq_false_iff_eq]; omega
    have t5 : (kd == 5) = true := by simpa using h5
    clear h5
    by_cases h6 : n = 6
    · subst h6
      have t1 : (((6 : Nat) : Int) != 6) = false := by decide
      obtain ⟨b, o, rfl, hcall⟩ := HR.out rfl
      have HCALL := Lib.hid hcall
      rw [if_pos ⟨rfl, t5⟩, decide_eq_true ⟨rfl, t5⟩]
      clear HR hcall t5
      go_wp2_with fail
      rw [← hV]
      clear hV
      refine (HCALL.out).mono ?_
      rintro e w2 ⟨rfl, rfl⟩
      go_wp2_with fail
      refine bodyPost_ret (results_tmp2 Tryz.results11 _ _) rfl ⟨rfl, HB1.out⟩
    · have t1 : ((n : Int) != 6) = true := by rw [bne_iff_ne]; omega
      rw [if_neg (fun h => h6 h.1), decide_eq_false (fun h => h6 h.1)]
      go_wp2_with fail
      rw [← hV]
      refine bodyPost_ret (results_tmp2 Tryz.results11 _ _) rfl ⟨rfl, HB1.out⟩
  · have t0 : ((kd : Int) != 5) = true := by rw [bne_iff_ne]; omega
    have e5 : ¬ (n = 6 ∧ (kd == 5) = true) := fun h => h5 (by simpa using h.2)
    rw [if_neg e5, decide_eq_false e5]
    go_wp2_with fail
    rw [← hV]
    refine bodyPost_ret (results_tmp2 Tryz.results11 _ _) rfl ⟨rfl, HB1.out⟩
set_option maxRecDepth 100000 in
set_option maxHeartbeats 2000000 in
theorem mac7 {kd : Nat} {A : Option Addr} {c : Nat} {l : List Nat} (w : World) (h : Bs w w.heap.size A c l) (hl : l.length ≤ 1000000000) :
    Calls Tryz.prog 7 #[.agg #[.int .u8 (kd : Int), .slice A l.length c]] w fun e w' => e = .returned (.tuple #[.agg (if l.length = 6 ∧ (kd == 1 || kd == 2) = true then macC l else #[.int .u8 0, .int .u8 0, .int .u8 0, .int .u8 0, .int .u8 0, .int .u8 0]), .bool (decide (l.length = 6 ∧ (kd == 1 || kd == 2) = true))]) ∧ Below w.heap.size w w' := by
  obtain ⟨V, hV⟩ : ∃ V, V = ((w.alloc (.cells #[.int .u8 (kd : Int), .slice A l.length c] 24)).alloc (.cells #[.int .u8 0, .int .u8 0, .int .u8 0, .int .u8 0, .int .u8 0, .int .u8 0] 28)).alloc (.cells #[.int .u8 0, .int .u8 0, .int .u8 0, .int .u8 0, .int .u8 0, .int .u8 0] 28) := ⟨_, rfl⟩
  have hbV : Below w.heap.size w V := by rw [hV]; exact (((Below.refl _ _).alloc (Nat.le_refl _) _).alloc (by simp) _).alloc (by simp; omega) _
  have s1 : V.heap.size = w.heap.size + 1 + 1 + 1 := by rw [hV]; simp
  have b1 : V.heap[w.heap.size]? = some (.cells #[.int .u8 (kd : Int), .slice A l.length c] 24 (0, 0)) := by rw [hV, heap_alloc_old _ _ (by simp; omega), heap_alloc_old _ _ (by simp), heap_alloc_new]
  have b2 : V.heap[w.heap.size + 1]? = some (.cells #[.int .u8 0, .int .u8 0, .int .u8 0, .int .u8 0, .int .u8 0, .int .u8 0] 28 (0, 0)) := by rw [hV, heap_alloc_old _ _ (by simp), show w.heap.size + 1 = (w.alloc (.cells #[.int .u8 (kd : Int), .slice A l.length c] 24)).heap.size by simp, heap_alloc_new]
  have b3 : V.heap[w.heap.size + 1 + 1]? = some (.cells #[.int .u8 0, .int .u8 0, .int .u8 0, .int .u8 0, .int .u8 0, .int .u8 0] 28 (0, 0)) := by rw [hV, show w.heap.size + 1 + 1 = ((w.alloc (.cells #[.int .u8 (kd : Int), .slice A l.length c] 24)).alloc (.cells #[.int .u8 0, .int .u8 0, .int .u8 0, .int .u8 0, .int .u8 0, .int .u8 0] 28)).heap.size by simp, heap_alloc_new]
  have HBV := Lib.hid hbV; have HB1 := Lib.hid b1; have HB2 := Lib.hid b2; have HB3 := Lib.hid b3; have HS1 := Lib.hid s1
  have HR := Lib.hid (h.rd.below hbV)
  have HZ := Lib.hid sizeZ49
  have HZ1 : Hid ((#[.int .u8 0, .int .u8 0, .int .u8 0, .int .u8 0, .int .u8 0, .int .u8 0] : Array Value).all (·.oneCell') = true) := Lib.hid (by simp [Value.oneCell'])
  have hcap := h.cap
  obtain ⟨n, hn⟩ : ∃ n, l.length = n := ⟨_, rfl⟩
  rw [hn] at hV HB1 hl hcap ⊢
  have HN := Lib.hid hn
  obtain ⟨q1, hq1⟩ : ∃ q, q = w.heap.size + 1 := ⟨_, rfl⟩
  obtain ⟨q2, hq2⟩ : ∃ q, q = w.heap.size + 1 + 1 := ⟨_, rfl⟩
  rw [← hq1] at HB2; rw [← hq2] at HB3
  clear h hbV b1 b2 b3 s1 hn
  obtain ⟨C, hC⟩ : ∃ C : Array Value, C = (if n = 6 ∧ (kd == 1 || kd == 2) = true then macC l else #[.int .u8 0, .int .u8 0, .int .u8 0, .int .u8 0, .int .u8 0, .int .u8 0]) := ⟨_, rfl⟩
  obtain ⟨r, hr⟩ : ∃ r : Bool, r = decide (n = 6 ∧ (kd == 1 || kd == 2) = true) := ⟨_, rfl⟩
  rw [← hC, ← hr]
  have HCC := Lib.hid hC; have HRR := Lib.hid hr
  clear hC hr
  go_enter Tryz.func7, Tryz.ntmps7
  go_upto_region 2 with (fail)
  rw [← hV, ← hq2, ← hq1]
  clear hV
  have c0 := cell_blk HB1.out 0
  have c1 := cell_blk HB1.out 1
  simp only [List.getElem?_toArray, List.getElem?_cons_zero, List.getElem?_cons_succ] at c0 c1
  have HQ2 := Lib.hid hq2; have HQ1 := Lib.hid hq1
  clear hq1 hq2
  have fin : ∀ (C : Array Value) (b : Bool), Below w.heap.size w (V.setRow q1 C) := fun C b => HBV.out.trans ((Turned.setRow HB2.out C).below (by rw [HQ1.out]; omega))
  have HFIN := Lib.hid fin
  clear fin
  have hC := HCC.out; have hr := HRR.out
  clear HCC HRR
  by_cases hok : n = 6 ∧ (kd == 1 || kd == 2) = true
  · rw [if_pos hok] at hC
    rw [decide_eq_true hok] at hr
    obtain ⟨e6, hk⟩ := hok
    subst e6
    obtain ⟨b, o, eA, hb, hc⟩ := HR.out (by intro e; have := HN.out; rw [e] at this; cases this)
    subst eA
    have hrun := copy_all (c := c) (m := 6) (w := V.drew) HB3.out rfl (by rw [HN.out]; exact Nat.le_refl _) HR.out (by decide)
    have hC2 : (row8 (l.take 6)).toArray = C := by rw [List.take_of_length_le (by rw [HN.out]; exact Nat.le_refl _), macC_row HN.out, hC]
    rw [HN.out, hC2] at hrun
    have HRUN := Lib.hid hrun
    have HSC : Hid ((Tryz.prog.info? 28).map (·.size) = some C.size) := Lib.hid (by rw [hC]; exact sizeZ49)
    have HC1 : Hid (C.all (·.oneCell') = true) := Lib.hid (by rw [hC]; simp [macC, Value.oneCell'])
    have HCZ : Hid (C.size = (#[.int .u8 0, .int .u8 0, .int .u8 0, .int .u8 0, .int .u8 0, .int .u8 0] : Array Value).size) := Lib.hid (by rw [hC]; rfl)
    have h3 : Hid ((V.drew.setRow q2 C).heap[q2]? = some (.cells C 28 (0, 0))) := Lib.hid ((Turned.setRow (w := V.drew) HB3.out C).get (lt_of_blk HB3.out))
    have h2 : Hid ((V.drew.setRow q2 C).heap[q1]? = some (.cells #[.int .u8 0, .int .u8 0, .int .u8 0, .int .u8 0, .int .u8 0, .int .u8 0] 28 (0, 0))) := Lib.hid ((Turned.setRow (w := V.drew) HB3.out C).keep HB2.out (by have := HQ1.out; have := HQ2.out; omega))
    have hbd : Hid (Below w.heap.size w (V.drew.setRow q2 C)) := Lib.hid (HBV.out.drew.trans ((Turned.setRow (w := V.drew) HB3.out C).below (by rw [HQ2.out]; omega)))
    have key : ((kd : Int) != 1) = false ∨ (((kd : Int) != 1) = true ∧ ((kd : Int) != 2) = false) := by
      by_cases k1 : kd = 1
      · left; rw [bne_eq_false_iff_eq]; omega
      · right
        have k2 : kd = 2 := by simpa [k1] using hk
        exact ⟨by rw [bne_iff_ne]; omega, by rw [bne_eq_false_iff_eq]; omega⟩
    clear hrun hC2 hc hk hC
    have t3 : (((6 : Nat) : Int) != 6) = false := by decide
    rcases key with t1 | ⟨t1, t2⟩
    all_goals
      go_upto_region 4 with (fail)
      have hS : V.drew.heap[w.heap.size]? = some (.cells #[.int .u8 (kd : Int), .slice (some ⟨b, o, none⟩) 6 c] 24 (0, 0)) := HB1.out
      refine wp_region_held_drew (S := fun W => W.heap[w.heap.size]? = some (.cells #[.int .u8 (kd : Int), .slice (some ⟨b, o, none⟩) 6 c] 24 (0, 0))) (by kernel_rfl) hS ?_
      clear hS
      intro HS
      refine wpAnyH_take (i := 0) (v := ?_) rfl (by kernel_rfl) (by kernel_rfl) (by kernel_rfl) (fun _ _ _ h => h) (Or.inl ⟨by go_simp, ?hy⟩) HS ?_
      case hy => intro W hW; go_simp; (try with_reducible rfl)
      try simp only [List.getElem_toArray, List.getElem_cons_zero, List.getElem_cons_succ, Act.put, List.setIfInBounds_toArray, List.set_cons_zero, List.set_cons_succ]
      refine wpAnyH_take (i := 1) (v := ?_) rfl (by kernel_rfl) (by kernel_rfl) (by kernel_rfl) (fun _ _ _ h => h) (Or.inl ⟨by go_simp, ?hy⟩) HS ?_
      case hy => intro W hW; go_simp; (try with_reducible rfl)
      try simp only [List.getElem_toArray, List.getElem_cons_zero, List.getElem_cons_succ, Act.put, List.setIfInBounds_toArray, List.set_cons_zero, List.set_cons_succ]
      refine wpAnyH_take (i := 2) (v := ?_) rfl (by kernel_rfl) (by kernel_rfl) (by kernel_rfl) (fun _ _ _ h => h) (Or.inl ⟨by go_simp, ?hy⟩) HS ?_
      case hy => intro W hW; have d := cell_blk hW 1; simp only [List.getElem?_toArray, List.getElem?_cons_zero, List.getElem?_cons_succ] at d; go_simp; (try with_reducible rfl)
      try simp only [List.getElem_toArray, List.getElem_cons_zero, List.getElem_cons_succ, Act.put, List.setIfInBounds_toArray, List.set_cons_zero, List.set_cons_succ]
      refine wpAnyH_ready (rs := [3]) (by kernel_rfl) (by simp) ?_
      refine AllReadyH.cons rfl (fun K hK => ?_) AllReadyH.nil
      rw [if_pos (by kernel_rfl)]
      simp only [List.getElem_toArray, List.getElem_cons_zero, List.getElem_cons_succ]
      refine Lib.wp_copy_run _ _ _ 22 22 rfl _ _ rfl rfl HRUN.out ?_
      refine hK.out _ _ ((Turned.setRow (w := V.drew) HB3.out C).keep HB1.out (by have := HQ2.out; omega)) (fun HS => ?_)
      clear hK
      try simp only [List.getElem_toArray, List.getElem_cons_zero, List.getElem_cons_succ, Act.put, List.setIfInBounds_toArray, List.set_cons_zero, List.set_cons_succ]
      refine wpAnyH_done (by kernel_rfl) ?_ _
      obtain ⟨W, hW⟩ : ∃ W, W = V.drew.setRow q2 C := ⟨_, rfl⟩
      rw [← hW] at h3 h2 hbd ⊢
      clear hW HS HRUN
      go_wp2_with (first | (refine wpList_load_row rfl 28 _ rfl q2 rfl 28 _ (0, 0) _ h3.out Tryz.underlying28 rfl HSC.out ?_) | (refine wpList_store_row rfl 28 _ _ rfl q1 C rfl rfl 28 _ h2.out HSC.out (by first | exact HCZ.out | exact HCZ.out.symm) HC1.out ?_))
      have t := Turned.setRow h2.out C
      refine bodyPost_ret (results_row_tmp Tryz.results7 _ _ q1 28 _ (0, 0) _ rfl (t.get (lt_of_blk h2.out)) Tryz.underlying28 rfl HSC.out) rfl ⟨?_, hbd.out.trans (t.below (by rw [HQ1.out]; omega))⟩
      rw [hr]
      rfl
  · rw [if_neg hok] at hC
    rw [decide_eq_false hok] at hr
    subst hC; subst hr
    have HOK := Lib.hid hok
    clear hok
    have key : (((kd : Int) != 1) = true ∧ ((kd : Int) != 2) = true) ∨ ((n : Int) != 6) = true ∧ (((kd : Int) != 1) = false ∨ ((kd : Int) != 1) = true ∧ ((kd : Int) != 2) = false) := by
      have h0 := HOK.out
      by_cases k1 : kd = 1
      · right
        refine ⟨?_, .inl (by rw [bne_eq_false_iff_eq]; omega)⟩
        rw [bne_iff_ne]; intro e; exact h0 ⟨by omega, by simp [k1]⟩
      · by_cases k2 : kd = 2
        · right
          refine ⟨?_, .inr ⟨by rw [bne_iff_ne]; omega, by rw [bne_eq_false_iff_eq]; omega⟩⟩
          rw [bne_iff_ne]; intro e; exact h0 ⟨by omega, by simp [k2]⟩
        · left
          exact ⟨by rw [bne_iff_ne]; omega, by rw [bne_iff_ne]; omega⟩
    rcases key with ⟨t1, t2⟩ | ⟨t3, t1 | ⟨t1, t2⟩⟩
    all_goals
      go_wp2_with (first | (refine wpList_load_row rfl 28 _ rfl q2 rfl 28 _ (0, 0) _ HB3.out Tryz.underlying28 rfl HZ.out ?_) | (refine wpList_store_row rfl 28 _ _ rfl q1 #[.int .u8 0, .int .u8 0, .int .u8 0, .int .u8 0, .int .u8 0, .int .u8 0] rfl rfl 28 _ HB2.out HZ.out rfl HZ1.out ?_))
      have t := Turned.setRow HB2.out #[.int .u8 0, .int .u8 0, .int .u8 0, .int .u8 0, .int .u8 0, .int .u8 0]
      refine bodyPost_ret (results_row_tmp Tryz.results7 _ _ q1 28 _ (0, 0) _ rfl (t.get (lt_of_blk HB2.out)) Tryz.underlying28 rfl HZ.out) rfl ⟨rfl, HFIN.out _ true⟩
end Go.Proofs.YtfolamkjlgpgmaaGreatDoor

/- The document's mask of an address, bit by bit. No condition but that the bytes are bytes. -/
namespace Go.Proofs.YtfolamkjlgpgmaaGreatDoor
open Go.RowKit
set_option linter.unusedVariables false
set_option linter.unusedSimpArgs false
def bitN (b o : Nat) : Nat := b / 2 ^ (7 - o) % 2
theorem bit_step : ∀ b : Fin 256, ∀ o : Fin 8, bits .or .u8 (top b.val o.val : Int) (IntKind.u8.wrap ((bitN b.val o.val : Int) * 2 ^ (7 - o.val))) = (top b.val (o.val + 1) : Int) := by decide +kernel
set_option maxRecDepth 100000 in
set_option maxHeartbeats 400000 in
theorem bit70 (a : Nat → Nat) (i : Nat) (w : World) (hi : i < 128) (ha : ∀ j, j < 16 → a j < 256) :
    Calls Tryz.prog 70 #[.agg (adrCells a), .int .i64 i] w fun e w' => e = .returned (.int .u8 (bitN (a (i / 8)) (i % 8) : Nat)) ∧ Below w.heap.size w w' := by
  have hc := adrCells_get a (i := i / 8) (by omega)
  have hs := adrCells_size a
  have m1 : (i : Int).tdiv 8 = ((i / 8 : Nat) : Int) := rfl
  have m2 : (i : Int).tmod 8 = ((i % 8 : Nat) : Int) := rfl
  have m3 : ¬ (7 : Int) - ((i % 8 : Nat) : Int) < 0 := by omega
  obtain ⟨cs, hcs⟩ : ∃ cs, cs = adrCells a := ⟨_, rfl⟩
  rw [← hcs] at hc hs ⊢
  have c0 := cell_blk (heap_alloc_new w (.cells cs 32)) (i / 8)
  rw [hc] at c0
  clear hc hs hcs
  go_enter Tryz.func70, Tryz.ntmps70
  go_wp2_with fail
  go_ret
  refine ⟨?_, (Below.refl _ _).alloc (Nat.le_refl _) _⟩
  have e : ((a (i / 8) : Int) / 2 ^ (7 - i % 8)).tmod 2 = ((bitN (a (i / 8)) (i % 8) : Nat) : Int) := by
    unfold bitN
    rw [show ((a (i / 8) : Int) / 2 ^ (7 - i % 8)) = ((a (i / 8) / 2 ^ (7 - i % 8) : Nat) : Int) by simp]
    rfl
  rw [← e]; rfl
theorem own_step {i j : Nat} (hj : j < 16) (hi : i < 128) : own (i + 1) j = if j = i / 8 then i % 8 + 1 else own i j := by unfold own; split <;> omega
theorem own_at {i : Nat} (hi : i < 128) : own i (i / 8) = i % 8 := by unfold own; omega
theorem own_end {n j : Nat} (hj : j < 16) : own (min n 128) j = own n j := by unfold own; omega
structure MaskR (B i : Nat) (a : Nat → Nat) (w wr : World) : Prop where
  h1 : wr.heap[B]? = some (.cells (adrCells a) 32 (0, 0))
  hz : wr.heap[B + 1]? = some (.cells zeroCells 32 (0, 0))
  h2 : wr.heap[B + 2]? = some (.cells (adrCells (masked a i)) 32 (0, 0))
  below : Below B w wr
theorem MaskR.step {B i : Nat} {a : Nat → Nat} {w wr w' : World} (h : MaskR B i a w wr) (hb : Below wr.heap.size wr w') : MaskR B i a w w' :=
  ⟨(hb.block _ (lt_of_blk h.h1)).trans h.h1, (hb.block _ (lt_of_blk h.hz)).trans h.hz, (hb.block _ (lt_of_blk h.h2)).trans h.h2, h.below.trans (hb.mono (Nat.le_of_lt (lt_of_blk h.h1)))⟩
theorem bit_next {b o : Nat} (hb : b < 256) (ho : o < 8) : bits .or .u8 (top b o : Int) (IntKind.u8.wrap ((bitN b o : Int) * 2 ^ (7 - o))) = (top b (o + 1) : Int) := bit_step ⟨b, hb⟩ ⟨o, ho⟩
theorem MaskR.next {B i : Nat} {a : Nat → Nat} {w wr : World} (h : MaskR B i a w wr) (hi : i < 128) : MaskR B (i + 1) a w (wr.setCell ⟨B + 2, i / 8, none⟩ (.int .u8 (top (a (i / 8)) (i % 8 + 1) : Nat))) := by
  have t := Turned.setCell h.h2 (i / 8) (.int .u8 (top (a (i / 8)) (i % 8 + 1) : Nat))
  rw [adrCells_set _ _ _ (by omega)] at t
  refine ⟨t.keep h.h1 (by omega), t.keep h.hz (by omega), ?_, h.below.trans (t.below (by omega))⟩
  rw [t.get (lt_of_blk h.h2)]
  congr 2
  apply adrCells_congr
  intro j hj
  unfold masked
  rw [own_step hj hi]
  by_cases e : j = i / 8
  · rw [if_pos e, if_pos e, e]
  · rw [if_neg e, if_neg e]
set_option maxRecDepth 100000 in
set_option maxHeartbeats 400000 in
theorem mask37 (a : Nat → Nat) (n : Nat) (w : World) (ha : ∀ i, i < 16 → a i < 256) (hn : n < 256) :
    Calls Tryz.prog 37 #[.agg (adrCells a), .int .u8 n] w fun e w' => e = .returned (.agg (adrCells (masked a n))) ∧ Below w.heap.size w w' := by
  have I0 : MaskR w.heap.size 0 a w (((w.alloc (.cells (adrCells a) 32)).alloc (.cells zeroCells 32)).alloc (.cells zeroCells 32)) := by
    refine ⟨by rw [heap_alloc_old _ _ (by simp; omega), heap_alloc2_old], by rw [heap_alloc_old _ _ (by simp), heap_alloc2_new], ?_, (((Below.refl _ _).alloc (Nat.le_refl _) _).alloc (by simp) _).alloc (by simp; omega) _⟩
    rw [show w.heap.size + 2 = ((w.alloc (.cells (adrCells a) 32)).alloc (.cells zeroCells 32)).heap.size by simp, heap_alloc_new]
    congr 2
    unfold zeroCells
    apply adrCells_congr
    intro j hj
    have e1 : own 0 j = 0 := by unfold own; omega
    have h1 := ha j hj
    unfold masked top
    rw [e1, Nat.div_eq_of_lt (by simpa using h1)]; first | done | simp
  have I : Hid (MaskR w.heap.size 0 a w (((w.alloc (.cells (adrCells a) 32)).alloc (.cells zeroCells 32)).alloc (.cells zeroCells 32))) := Lib.hid I0
  have HSZ := Lib.hid (show (Tryz.prog.info? 32).map (·.size) = some 16 by kernel_rfl)
  have HAL := Lib.hid (adrL_length a)
  clear I0
  rw [zeroCells_eq] at I
  go_enter Tryz.func37, Tryz.ntmps37
  go_wp2_with fail
  go_loopw [6] (fun i wr => ∃ k : Nat, k ≤ min n 128 ∧ i = .int .i64 k ∧ MaskR w.heap.size k a w wr) (fun i _ => 128 - (intOf i).toNat)
  case atStart => exact ⟨0, by omega, rfl, I.out⟩
  case round =>
    clear I
    obtain ⟨k, hk, rfl, I⟩ := hrel
    have HI := Lib.hid I
    clear I
    by_cases hlt : k < min n 128
    · have t1 : (k : Int) < 128 := by omega
      have t2 : (k : Int) < n := by omega
      have m1 : (k : Int).tdiv 8 = ((k / 8 : Nat) : Int) := rfl
      have m2 : (k : Int).tmod 8 = ((k % 8 : Nat) : Int) := rfl
      go_upto_region 5 with (fail)
      have HB70 := Lib.hid (fun W => bit70 a k W (by omega) ha)
      have HROW : Hid (∀ W : World, W.heap[w.heap.size]? = some (.cells (adrCells a) 32 (0, 0)) → W.rangeAt w.heap.size 0 (adrL a)) := Lib.hid (fun W h j v hj => by rw [Nat.zero_add]; exact (cell_blk h j).trans (by simpa [adrCells] using hj))
      obtain ⟨q, hq⟩ : ∃ q, q = k / 8 := ⟨_, rfl⟩
      obtain ⟨r, hr⟩ : ∃ r, r = k % 8 := ⟨_, rfl⟩
      have HC5 : Hid (∀ W, MaskR w.heap.size k a w W → W.cell? ⟨w.heap.size + 1 + 1, q, none⟩ = some (.int .u8 (top (a q) r : Nat))) := Lib.hid (fun W hW => by
        have c5 := cell_blk hW.h2 (k / 8)
        rw [adrCells_get _ (by omega)] at c5
        rw [hq, hr]
        refine c5.trans ?_
        unfold masked
        rw [own_at (by omega)])
      rw [← hq, ← hr] at HB70
      rw [← hq] at m1
      rw [← hr] at m2
      have hq16 : q < 16 := by omega
      have hqI : (q : Int) < 16 := by omega
      have hr8 : r < 8 := by omega
      have HQ := Lib.hid hq; have HR := Lib.hid hr
      have w1 : IntKind.i64.wrap (q : Int) = (q : Int) := i64_small (by omega)
      have w2 : IntKind.i64.wrap (7 - (r : Int)) = 7 - (r : Int) := by rw [show (7 : Int) - r = ((7 - r : Nat) : Int) by omega]; exact i64_small (by omega)
      have m3 : ¬ (7 : Int) - r < 0 := by omega
      have HNX : Hid (∀ W, MaskR w.heap.size k a w W → MaskR w.heap.size (k + 1) a w (W.setCell ⟨w.heap.size + 1 + 1, q, none⟩ (.int .u8 (top (a q) (r + 1) : Nat)))) := Lib.hid (fun W hW => by
        have := hW.next (by omega)
        rw [← hq, ← hr] at this
        exact this)
      have eor := bit_next (ha q hq16) hr8
      clear hq hr
      have HI1 : Hid (MaskR w.heap.size k a w wr.drew) := Lib.hid (HI.out.step ((Below.refl _ _).drew))
      have hS : wr.drew.heap[w.heap.size]? = some (.cells (adrCells a) 32 (0, 0)) := HI1.out.h1
      refine wp_region_held_drew (S := fun W => W.heap[w.heap.size]? = some (.cells (adrCells a) 32 (0, 0))) (by kernel_rfl) hS ?_
      clear hS
      intro HS
      refine wpAnyH_take (i := 0) (v := ?_) rfl (by kernel_rfl) (by kernel_rfl) (by kernel_rfl) (fun _ _ _ h => h) (Or.inl ⟨by go_simp, ?hy⟩) HS ?_
      case hy => intro W hW; go_simp; (try with_reducible rfl)
      try simp only [List.getElem_toArray, List.getElem_cons_zero, List.getElem_cons_succ, Act.put, List.setIfInBounds_toArray, List.set_cons_zero, List.set_cons_succ]
      refine wpAnyH_take (i := 1) (v := (.int .i64 (q : Int))) rfl (by kernel_rfl) (by kernel_rfl) (by kernel_rfl) (fun _ _ _ h => h) (Or.inl ⟨by go_simp, fun W hW => by go_simp⟩) HS ?_
      try simp only [List.getElem_toArray, List.getElem_cons_zero, List.getElem_cons_succ, Act.put, List.setIfInBounds_toArray, List.set_cons_zero, List.set_cons_succ]
      refine wpAnyH_take (i := 2) (v := ?_) rfl (by kernel_rfl) (by kernel_rfl) (by kernel_rfl) (fun _ _ _ h => h) (Or.inl ⟨by go_simp, ?hy⟩) HS ?_
      case hy => intro W hW; go_simp; (try with_reducible rfl)
      try simp only [List.getElem_toArray, List.getElem_cons_zero, List.getElem_cons_succ, Act.put, List.setIfInBounds_toArray, List.set_cons_zero, List.set_cons_succ]
      refine wpAnyH_take (i := 3) (v := (.int .i64 (q : Int))) rfl (by kernel_rfl) (by kernel_rfl) (by kernel_rfl) (fun _ _ _ h => h) (Or.inl ⟨by go_simp, fun W hW => by go_simp⟩) HS ?_
      try simp only [List.getElem_toArray, List.getElem_cons_zero, List.getElem_cons_succ, Act.put, List.setIfInBounds_toArray, List.set_cons_zero, List.set_cons_succ]
      refine wpAnyH_take (i := 4) (v := (.pointer (some ⟨w.heap.size + 1 + 1, q, none⟩))) rfl (by kernel_rfl) (by kernel_rfl) (by kernel_rfl) (fun _ _ _ h => h) (Or.inl ⟨by go_simp, fun W hW => by go_simp⟩) HS ?_
      try simp only [List.getElem_toArray, List.getElem_cons_zero, List.getElem_cons_succ, Act.put, List.setIfInBounds_toArray, List.set_cons_zero, List.set_cons_succ]
      refine wpAnyH_take (i := 6) (v := .agg (adrCells a)) rfl (by kernel_rfl) (by kernel_rfl) (by kernel_rfl) (fun _ _ _ h => h) (by refine yieldsIf_load_mid ?_ 32 (.tmp 2) rfl w.heap.size 0 ?_ (adrL a) _ (fun W hW => HROW.out W hW) Tryz.underlying32 rfl (by rw [HAL.out]; exact HSZ.out); (go_simp); (go_simp)) HS ?_
      try simp only [List.getElem_toArray, List.getElem_cons_zero, List.getElem_cons_succ, Act.put, List.setIfInBounds_toArray, List.set_cons_zero, List.set_cons_succ]
      refine wpAnyH_take (i := 7) (v := ?_) rfl (by kernel_rfl) (by kernel_rfl) (by kernel_rfl) (fun _ _ _ h => h) (Or.inl ⟨by go_simp, ?hy⟩) HS ?_
      case hy => intro W hW; go_simp; (try with_reducible rfl)
      try simp only [List.getElem_toArray, List.getElem_cons_zero, List.getElem_cons_succ, Act.put, List.setIfInBounds_toArray, List.set_cons_zero, List.set_cons_succ]
      refine wpAnyH_take (i := 9) (v := ?_) rfl (by kernel_rfl) (by kernel_rfl) (by kernel_rfl) (fun _ _ _ h => h) (Or.inl ⟨by go_simp, ?hy⟩) HS ?_
      case hy => intro W hW; go_simp; (try with_reducible rfl)
      try simp only [List.getElem_toArray, List.getElem_cons_zero, List.getElem_cons_succ, Act.put, List.setIfInBounds_toArray, List.set_cons_zero, List.set_cons_succ]
      refine wpAnyH_take (i := 10) (v := (.int .i64 (r : Int))) rfl (by kernel_rfl) (by kernel_rfl) (by kernel_rfl) (fun _ _ _ h => h) (Or.inl ⟨by go_simp, fun W hW => by go_simp⟩) HS ?_
      try simp only [List.getElem_toArray, List.getElem_cons_zero, List.getElem_cons_succ, Act.put, List.setIfInBounds_toArray, List.set_cons_zero, List.set_cons_succ]
      refine wpAnyH_take (i := 11) (v := (.int .i64 (7 - (r : Int)))) rfl (by kernel_rfl) (by kernel_rfl) (by kernel_rfl) (fun _ _ _ h => h) (Or.inl ⟨by go_simp, fun W hW => by go_simp⟩) HS ?_
      try simp only [List.getElem_toArray, List.getElem_cons_zero, List.getElem_cons_succ, Act.put, List.setIfInBounds_toArray, List.set_cons_zero, List.set_cons_succ]
      refine wpAnyH_ready (rs := [5, 8]) (by kernel_rfl) (by simp) ?_
      refine AllReadyH.cons rfl (fun K hK => ?_) (AllReadyH.cons rfl (fun K hK => ?_) AllReadyH.nil)
      · rw [if_pos (by kernel_rfl)]
        simp only [List.getElem_toArray, List.getElem_cons_zero, List.getElem_cons_succ]
        have c5 := HC5.out _ HI1.out
        go_simp
        refine hK.out _ _ HI1.out.h1 (fun HS => ?_)
        clear hK
        try simp only [List.getElem_toArray, List.getElem_cons_zero, List.getElem_cons_succ, Act.put, List.setIfInBounds_toArray, List.set_cons_zero, List.set_cons_succ]
        refine wpAnyH_ready (rs := [8]) (by kernel_rfl) (by simp) ?_
        refine AllReadyH.cons rfl (fun K hK => ?_) AllReadyH.nil
        rw [if_pos (by kernel_rfl)]
        simp only [List.getElem_toArray, List.getElem_cons_zero, List.getElem_cons_succ]
        go_simp
        refine (HB70.out _).mono ?_
        rintro e w2 ⟨rfl, hb2⟩
        have HI3 := Lib.hid (HI1.out.step hb2)
        go_simp
        refine hK.out _ _ HI3.out.h1 (fun HS => ?_)
        clear hK hb2
        try simp only [List.getElem_toArray, List.getElem_cons_zero, List.getElem_cons_succ, Act.put, List.setIfInBounds_toArray, List.set_cons_zero, List.set_cons_succ]
        refine wpAnyH_take (i := 12) (v := (.int .u8 (IntKind.u8.wrap ((bitN (a q) r : Int) * 2 ^ (7 - r))))) rfl (by kernel_rfl) (by kernel_rfl) (by kernel_rfl) (fun _ _ _ h => h) (Or.inl ⟨by go_simp, fun W hW => by go_simp⟩) HS ?_
        try simp only [List.getElem_toArray, List.getElem_cons_zero, List.getElem_cons_succ, Act.put, List.setIfInBounds_toArray, List.set_cons_zero, List.set_cons_succ]
        refine wpAnyH_take (i := 13) (v := (.int .u8 (top (a q) (r + 1) : Int))) rfl (by kernel_rfl) (by kernel_rfl) (by kernel_rfl) (fun _ _ _ h => h) (Or.inl ⟨by go_simp, fun W hW => by go_simp⟩) HS ?_
        try simp only [List.getElem_toArray, List.getElem_cons_zero, List.getElem_cons_succ, Act.put, List.setIfInBounds_toArray, List.set_cons_zero, List.set_cons_succ]
        refine wpAnyH_take (i := 14) (v := (.pointer (some ⟨w.heap.size + 1 + 1, q, none⟩))) rfl (by kernel_rfl) (by kernel_rfl) (by kernel_rfl) (fun _ _ _ h => h) (Or.inl ⟨by go_simp, fun W hW => by go_simp⟩) HS ?_
        try simp only [List.getElem_toArray, List.getElem_cons_zero, List.getElem_cons_succ, Act.put, List.setIfInBounds_toArray, List.set_cons_zero, List.set_cons_succ]
        refine wpAnyH_ready (rs := [15]) (by kernel_rfl) (by simp) ?_
        refine AllReadyH.cons rfl (fun K hK => ?_) AllReadyH.nil
        rw [if_pos (by kernel_rfl)]
        simp only [List.getElem_toArray, List.getElem_cons_zero, List.getElem_cons_succ]
        have c6 := HC5.out _ HI3.out
        have f6 := frozen_blk HI3.out.h2 q
        have HN2 := Lib.hid (HNX.out _ HI3.out)
        go_simp
        refine hK.out _ _ HN2.out.h1 (fun HS => ?_)
        clear hK
        refine wpAnyH_done (by kernel_rfl) ?_ _
        go_wp2_with fail
        go_roundw
        case rel => exact ⟨k + 1, by omega, by go_num, HN2.out⟩
        case measure => simp [intOf]; omega
      · rw [if_pos (by kernel_rfl)]
        simp only [List.getElem_toArray, List.getElem_cons_zero, List.getElem_cons_succ]
        go_simp
        refine (HB70.out _).mono ?_
        rintro e w2 ⟨rfl, hb2⟩
        have HI3 := Lib.hid (HI1.out.step hb2)
        go_simp
        refine hK.out _ _ HI3.out.h1 (fun HS => ?_)
        clear hK hb2
        try simp only [List.getElem_toArray, List.getElem_cons_zero, List.getElem_cons_succ, Act.put, List.setIfInBounds_toArray, List.set_cons_zero, List.set_cons_succ]
        refine wpAnyH_take (i := 12) (v := (.int .u8 (IntKind.u8.wrap ((bitN (a q) r : Int) * 2 ^ (7 - r))))) rfl (by kernel_rfl) (by kernel_rfl) (by kernel_rfl) (fun _ _ _ h => h) (Or.inl ⟨by go_simp, fun W hW => by go_simp⟩) HS ?_
        try simp only [List.getElem_toArray, List.getElem_cons_zero, List.getElem_cons_succ, Act.put, List.setIfInBounds_toArray, List.set_cons_zero, List.set_cons_succ]
        refine wpAnyH_ready (rs := [5]) (by kernel_rfl) (by simp) ?_
        refine AllReadyH.cons rfl (fun K hK => ?_) AllReadyH.nil
        rw [if_pos (by kernel_rfl)]
        simp only [List.getElem_toArray, List.getElem_cons_zero, List.getElem_cons_succ]
        have c5 := HC5.out _ HI3.out
        go_simp
        refine hK.out _ _ HI3.out.h1 (fun HS => ?_)
        clear hK
        try simp only [List.getElem_toArray, List.getElem_cons_zero, List.getElem_cons_succ, Act.put, List.setIfInBounds_toArray, List.set_cons_zero, List.set_cons_succ]
        refine wpAnyH_take (i := 13) (v := (.int .u8 (top (a q) (r + 1) : Int))) rfl (by kernel_rfl) (by kernel_rfl) (by kernel_rfl) (fun _ _ _ h => h) (Or.inl ⟨by go_simp, fun W hW => by go_simp⟩) HS ?_
        try simp only [List.getElem_toArray, List.getElem_cons_zero, List.getElem_cons_succ, Act.put, List.setIfInBounds_toArray, List.set_cons_zero, List.set_cons_succ]
        refine wpAnyH_take (i := 14) (v := (.pointer (some ⟨w.heap.size + 1 + 1, q, none⟩))) rfl (by kernel_rfl) (by kernel_rfl) (by kernel_rfl) (fun _ _ _ h => h) (Or.inl ⟨by go_simp, fun W hW => by go_simp⟩) HS ?_
        try simp only [List.getElem_toArray, List.getElem_cons_zero, List.getElem_cons_succ, Act.put, List.setIfInBounds_toArray, List.set_cons_zero, List.set_cons_succ]
        refine wpAnyH_ready (rs := [15]) (by kernel_rfl) (by simp) ?_
        refine AllReadyH.cons rfl (fun K hK => ?_) AllReadyH.nil
        rw [if_pos (by kernel_rfl)]
        simp only [List.getElem_toArray, List.getElem_cons_zero, List.getElem_cons_succ]
        have c6 := HC5.out _ HI3.out
        have f6 := frozen_blk HI3.out.h2 q
        have HN2 := Lib.hid (HNX.out _ HI3.out)
        go_simp
        refine hK.out _ _ HN2.out.h1 (fun HS => ?_)
        clear hK
        refine wpAnyH_done (by kernel_rfl) ?_ _
        go_wp2_with fail
        go_roundw
        case rel => exact ⟨k + 1, by omega, by go_num, HN2.out⟩
        case measure => simp [intOf]; omega

    · have HK : Hid (∀ j, j < 16 → own k j = own n j) := Lib.hid (fun j hj => by rw [show k = min n 128 by omega]; exact own_end hj)
      have g1 := HI.out.h2
      rw [adrCells_congr (b := masked a n) (fun i hi => by unfold masked; rw [HK.out i hi])] at g1
      have G1 := Lib.hid g1; have G2 := Lib.hid HI.out.hz
      have hsz : (Tryz.prog.info? 32).map (·.size) = some (adrCells (masked a n)).size := by rw [adrCells_size]; kernel_rfl
      have HS := Lib.hid hsz
      clear g1 hsz
      have GB := Lib.hid HI.out.below
      by_cases hk : k < 128
      · have t1 : (k : Int) < 128 := by omega
        have t2 : ¬ (k : Int) < n := by omega
        go_wp2_with (first | (refine wpList_load_row rfl 32 _ rfl (w.heap.size + 1 + 1) rfl 32 _ (0, 0) _ G1.out Tryz.underlying32 rfl HS.out ?_) | (refine wpList_store_row rfl 32 _ _ rfl (w.heap.size + 1) (adrCells (masked a n)) rfl rfl 32 _ G2.out HS.out ?hold (adrCells_one _) ?_))
        case hold => rw [adrCells_size]; kernel_rfl
        have t := Turned.setRow G2.out (adrCells (masked a n))
        refine bodyPost_ret (results_cell_row rfl _ _ (w.heap.size + 1) 32 _ (0, 0) _ rfl (t.get (lt_of_blk G2.out)) Tryz.underlying32 rfl HS.out) rfl ⟨rfl, GB.out.trans (t.below (by omega))⟩
      · have t1 : ¬ (k : Int) < 128 := by omega
        go_wp2_with (first | (refine wpList_load_row rfl 32 _ rfl (w.heap.size + 1 + 1) rfl 32 _ (0, 0) _ G1.out Tryz.underlying32 rfl HS.out ?_) | (refine wpList_store_row rfl 32 _ _ rfl (w.heap.size + 1) (adrCells (masked a n)) rfl rfl 32 _ G2.out HS.out ?hold (adrCells_one _) ?_))
        case hold => rw [adrCells_size]; kernel_rfl
        have t := Turned.setRow G2.out (adrCells (masked a n))
        refine bodyPost_ret (results_cell_row rfl _ _ (w.heap.size + 1) 32 _ (0, 0) _ rfl (t.get (lt_of_blk G2.out)) Tryz.underlying32 rfl HS.out) rfl ⟨rfl, GB.out.trans (t.below (by omega))⟩
end Go.Proofs.YtfolamkjlgpgmaaGreatDoor
