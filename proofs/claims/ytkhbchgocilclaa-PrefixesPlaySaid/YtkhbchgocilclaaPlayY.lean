/- PrefixesPlay's walk: the main road. No condition but that the numbers fit. -/
import Derived.Test.YtkhbchgocilclaaPlayX
namespace Go.Proofs.Ytkhbchgocilclaa
open Go.RowKit
set_option linter.unusedVariables false
set_option linter.unusedSimpArgs false
theorem PH.start {b mb : Nat} {w w2 : World} (h : BHeld b mb (.map []) w w2) : PH b mb w2.heap.size (.map []) [] w (w2.alloc (.cells #[.slice none 0 0] 51)) :=
  ⟨h.step ((Below.refl _ _).alloc (Nat.le_refl _) _), ⟨none, 0, heap_alloc_new _ _, ⟨fun h => absurd h (Nat.lt_irrefl _)⟩, h.below.size⟩, rel_empty, lok_empty⟩
theorem u64_small {m : Nat} (h : m < 18446744073709551616) : IntKind.u64.wrap (m : Int) = (m : Int) := by
  simp [IntKind.wrap, IntKind.signed, IntKind.bits]; omega
theorem frozen_setCell (w : World) (a x : Addr) (v : Value) : (w.setCell a v).frozen? x = w.frozen? x := by
  simp only [World.frozen?, World.setCell, Array.getElem?_modify]
  by_cases h : a.block = x.block
  · rw [if_pos h]
    cases hx : w.heap[x.block]? with
    | none => rfl
    | some o => cases o <;> rfl
  · rw [if_neg h]
/-- the row that List gave, whatever stands in it -/
structure SInv (g n : Nat) (w8 wr : World) : Prop where
  at_ : ∀ k, k < n → ∃ v, wr.cell? ⟨g, k * 18 + 17, none⟩ = some v ∧ wr.frozen? ⟨g, k * 18 + 17, none⟩ = false
  below : Below w8.heap.size w8 wr
theorem SInv.start {g : Nat} {w8 wr : World} {T : List UInt8 → Nat} {ks : List PKey} (hb : Below w8.heap.size w8 wr) (h : ∀ (i : Nat) (k : PKey), ks[i]? = some k → ∀ x, (encK T k)[17]? = some x → wr.cell? ⟨g, i * 18 + 17, none⟩ = some x ∧ wr.frozen? ⟨g, i * 18 + 17, none⟩ = false) : SInv g ks.length w8 wr :=
  ⟨fun k hk => ⟨_, h k ks[k] (List.getElem?_eq_getElem hk) _ (by
    rw [enc_pre, List.getElem?_append_right (by rw [preL_length]; omega), preL_length]; rfl)⟩, hb⟩
theorem SInv.set {g n : Nat} {w8 wr : World} (h : SInv g n w8 wr) (hg : w8.heap.size ≤ g) (o : Nat) (v : Value) : SInv g n w8 (wr.setCell ⟨g, o, none⟩ v) :=
  ⟨fun k hk => by
    obtain ⟨v1, h1, h2⟩ := h.at_ k hk
    obtain ⟨v2, h3⟩ := cell?_setCell_some (p := ⟨g, o, none⟩) (x := v) h1
    exact ⟨v2, h3, by rw [frozen_setCell]; exact h2⟩, h.below.setCell hg v⟩
set_option maxRecDepth 100000 in
set_option maxHeartbeats 20000000 in
theorem play_yes (p q : Option Addr) (len cap alen acap now0 : Nat) (o : Nat → Info) (tick : Nat → Bool) (later : Nat → Nat) (f : Nat → Nat → Nat) (w : World) (hA : ActsIn w w.heap.size p len o tick later) (hK : AsksIn w w.heap.size q alen f) (hlen : len ≤ 150) (halen : alen ≤ 50) (hn0 : now0 < 18446744073709551616) :
    Calls Try.prog 5 #[.slice p len cap, .int .u64 (now0 : Int), .slice q alen acap] w fun e w' => e = .returned (.bool true) ∧ Below w.heap.size w w' := by
  have t1 : decide ((150 : Int) < len) = false := by simp; omega
  have t2 : decide ((50 : Int) < alen) = false := by simp; omega
  have HN0 := Lib.hid hn0; clear hn0
  have HKK := Lib.hid hK; clear hK
  go_enter Try.func5, Try.ntmps5
  go_wp2_with fail
  refine (new_any w).mono ?_
  rintro e w2 ⟨b, mb, rfl, hb, hle, hne, hm⟩
  have H2 := Lib.hid (show BHeld b mb (.map []) w w2 from ⟨hb.get, hm, hb.new, hle, hb.below⟩)
  have H3 := Lib.hid (PH.start H2.out)
  clear hb hle hne hm t1 t2 H2
  go_wp2_with fail
  generalize w2.heap.size = mk at *
  go_loopw [9, 10] (fun nw i wr => ∃ (i' now : Nat) (D : PD) (L : List Ent), i' ≤ len ∧ i = .int .i64 i' ∧ nw = .int .u64 (now : Int) ∧ now < 18446744073709551616 ∧ PH b mb mk D L w wr) (fun _ i _ => len - (intOf i).toNat)
  case atStart => exact ⟨0, now0, _, _, by omega, rfl, rfl, HN0.out, H3.out⟩
  case round =>
    clear H3 HN0
    obtain ⟨i, now, D, L, hi, rfl, rfl, hnw, I⟩ := hrel
    have HI := Lib.hid I; have HNW := Lib.hid hnw
    clear I hnw
    by_cases hlt : i < len
    · obtain ⟨lb, off, rfl, hlb, hc⟩ := hA (by omega)
      obtain ⟨hr, hok, hla⟩ := hc i hlt
      have hr1 : w.rangeAt lb (off + i * 23 + 1) (o i).L := (hA.at (by omega)).elim (fun lb' h => by
        obtain ⟨off', e, _, hc'⟩ := h
        injection e with e; injection e with e1 e2
        subst e1 e2
        exact (hc' i hlt).1)
      have hra : w.rangeAt lb (off + i * 23 + 1) (adrL (o i).a) := fun j v hj => hr1 j v (by
        have hl : j < (adrL (o i).a).length := (List.getElem?_eq_some_iff.1 hj).1
        unfold Info.L; rw [List.getElem?_append_left hl]; exact hj)
      have hc1 : w.cell? ⟨lb, off + i * 23 + 22, none⟩ = some (.int .u32 (later i : Int)) := by
        refine hr 22 _ ?_
        rw [List.cons_append, List.getElem?_cons_succ, List.getElem?_append_right (by rw [Info.L_length]; exact Nat.le_refl _), Info.L_length]; rfl
      have hc0 : w.cell? ⟨lb, off + i * 23, none⟩ = some (.bool (tick i)) := hr 0 _ rfl
      have hc2 := (HI.out.B.below.cell (p := ⟨lb, off + i * 23 + 22, none⟩) hlb).trans hc1
      have HR1 := Lib.hid hr1; have HRA := Lib.hid hra; have HC0 := Lib.hid hc0; have HOK := Lib.hid hok; have HLA := Lib.hid hla; have HA := Lib.hid hA
      clear hr hr1 hra hc0 hc1 hok hla hc hA
      go_wp2_with fail
      have ew1 : IntKind.u64.wrap (later i : Int) = (later i : Int) := u64_small (by have := HLA.out; omega)
      have ew2 : IntKind.u64.wrap ((now : Int) + (later i : Int)) = (((now + later i) % 18446744073709551616 : Nat) : Int) := by
        simp [IntKind.wrap, IntKind.signed, IntKind.bits]
      first | rw [ew1, ew2] | rw [ew2]
      have HNW2 := Lib.hid (Nat.mod_lt (now + later i) (show 0 < 18446744073709551616 by decide))
      generalize (now + later i) % 18446744073709551616 = now2 at *
      clear ew1 ew2 HLA HNW hc2
      cases ht : tick i with
      | true =>
        rw [ht] at HC0
        refine reg10_tick HI.out HOK.out HNW2.out hlt hlen hlb HR1.out HC0.out (fun c a d v W h => (by cases (show _ ∧ (_ = _) ∧ _ from h).2.1)) ?_
        clear HI HR1 HC0 ht
        intro W P
        have HI := Lib.hid P; clear P
        go_wp2_with fail
        refine reg12 HI.out HOK.out.a hlt hlen hlb HRA.out (fun c a d v W h => (by cases (show _ ∧ (_ = _) ∧ _ from h).2.1)) ?_
        clear HI HRA
        intro W2 P
        have HI := Lib.hid P; clear P
        go_wp2_with fail
        go_roundw
        case rel => exact ⟨i + 1, now2, _, _, by omega, by go_num, rfl, HNW2.out, HI.out⟩
        case measure => simp [intOf]; omega
      | false =>
        rw [ht] at HC0
        refine reg10_learn HI.out HOK.out HNW2.out hlt hlen hlb HR1.out HC0.out (fun c a d v W h => (by cases (show _ ∧ (_ = _) ∧ _ from h).2.1)) ?_
        clear HI HR1 HC0 ht
        intro W P
        have HI := Lib.hid P; clear P
        go_wp2_with fail
        refine reg12 HI.out HOK.out.a hlt hlen hlb HRA.out (fun c a d v W h => (by cases (show _ ∧ (_ = _) ∧ _ from h).2.1)) ?_
        clear HI HRA
        intro W2 P
        have HI := Lib.hid P; clear P
        go_wp2_with fail
        go_roundw
        case rel => exact ⟨i + 1, now2, _, _, by omega, by go_num, rfl, HNW2.out, HI.out⟩
        case measure => simp [intOf]; omega
    · obtain rfl : i = len := by omega
      clear hA
      go_wp2_with fail
      go_loopw [11] (fun i wr => ∃ (k : Nat), k ≤ alen ∧ i = .int .i64 k ∧ PH b mb mk D L w wr) (fun i _ => alen - (intOf i).toNat)
      case atStart => exact ⟨0, by omega, rfl, HI.out⟩
      case round =>
        clear HI
        obtain ⟨k, hk, rfl, I⟩ := hrel
        have HI := Lib.hid I
        clear I
        by_cases hlt2 : k < alen
        · obtain ⟨lb2, off2, rfl, hlb2, hc2⟩ := HKK.out (by omega)
          obtain ⟨hr2, hok2⟩ := hc2 k hlt2
          have HR2 := Lib.hid hr2; have HOK2 := Lib.hid hok2
          clear hr2 hok2 hc2
          go_wp2_with fail
          refine reg17 HI.out HOK2.out hlt2 halen hlb2 HR2.out (fun c a d v W h => (by cases (show _ ∧ (_ = _) ∧ _ from h).2.1)) ?_
          clear HI HR2
          intro W P
          have HI := Lib.hid P; clear P
          go_wp2_with fail
          go_roundw
          case rel => exact ⟨k + 1, by omega, by go_num, HI.out⟩
          case measure => simp [intOf]; omega
        · obtain rfl : k = alen := by omega
          clear HKK
          go_wp2_with fail
          have HS0 := Lib.hid HI.out
          refine (list_any b mb D _ HI.out.B.hb HI.out.B.map HI.out.ok).mono ?_
          rintro e w8 ⟨v, ks, rfl, Ls⟩
          have h8 := Ls.len
          have HP8 := Lib.hid (HI.out.step Ls.below)
          have HB8 := Lib.hid Ls.below
          rcases Ls.val with ⟨hks, rfl⟩ | ⟨g, rfl, hg0, hg, hat⟩
          · clear Ls HI HS0 HB8
            go_wp2_with fail
            refine wp_loop_rounds 1 ?_
            rw [rounds_succ]
            go_wp2_with fail
            obtain ⟨p9, cap9, hV9⟩ := HP8.out.R
            refine (same17 HP8.out.B.hb HP8.out.B.map HP8.out.ok HP8.out.rel hV9).mono ?_
            rintro e9 w9 ⟨rfl, b9⟩
            have H9 := Lib.hid (HP8.out.step b9)
            clear HP8 b9 hV9
            go_wp2_with fail
            refine (lives_any _).mono ?_
            rintro e w10 ⟨rfl, b10⟩
            have H10 := Lib.hid (H9.out.step b10)
            clear H9 b10
            go_wp2_with fail
            go_ret
            exact ⟨rfl, H10.out.B.below⟩
          · have HSI := Lib.hid (SInv.start HB8.out (fun i k hk x hx => hat i 17 k x hk hx))
            have HG0 := Lib.hid hg0
            clear Ls hat hg HP8 HI HB8
            go_wp2_with fail
            go_loopw [13] (fun i wr2 => ∃ (k : Nat), k ≤ ks.length ∧ i = .int .i64 k ∧ SInv g ks.length wr wr2) (fun i _ => ks.length - (intOf i).toNat)
            case atStart => exact ⟨0, by omega, rfl, HSI.out⟩
            case round =>
              clear HSI
              obtain ⟨k, hk, rfl, I⟩ := hrel
              have HI := Lib.hid I
              clear I
              by_cases hlt3 : k < ks.length
              · obtain ⟨v3, hc3, hf3⟩ := HI.out.at_ k hlt3
                go_wp2_with fail
                go_roundw
                case rel => exact ⟨k + 1, by omega, by go_num, HI.out.set HG0.out _ _⟩
                case measure => simp [intOf]; omega
              · obtain rfl : k = ks.length := by omega
                have HP8 := Lib.hid (HS0.out.step HI.out.below)
                clear HS0 HI
                go_wp2_with fail
                obtain ⟨p9, cap9, hV9⟩ := HP8.out.R
                refine (same17 HP8.out.B.hb HP8.out.B.map HP8.out.ok HP8.out.rel hV9).mono ?_
                rintro e9 w9 ⟨rfl, b9⟩
                have H9 := Lib.hid (HP8.out.step b9)
                clear HP8 b9 hV9
                go_wp2_with fail
                refine (lives_any _).mono ?_
                rintro e w10 ⟨rfl, b10⟩
                have H10 := Lib.hid (H9.out.step b10)
                clear H9 b10
                go_wp2_with fail
                go_ret
                exact ⟨rfl, H10.out.B.below⟩
end Go.Proofs.Ytkhbchgocilclaa
