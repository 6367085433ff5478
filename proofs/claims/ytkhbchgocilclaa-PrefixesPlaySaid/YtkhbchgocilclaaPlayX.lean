/- PrefixesPlay's walk. No condition but that the numbers fit. -/
import Derived.Test.YtkhbchgocilclaaPlayV
import Derived.Test.YtkhbchgocilclaaBoundY
namespace Go.Proofs.Ytkhbchgocilclaa
open Go.RowKit
set_option linter.unusedVariables false
set_option linter.unusedSimpArgs false
/-- the addresses asked for, as they stand in memory -/
def AsksIn (w : World) (B : Nat) (A : Option Addr) (n : Nat) (f : Nat → Nat → Nat) : Prop :=
  0 < n → ∃ b off, A = some ⟨b, off, none⟩ ∧ b < B ∧ ∀ k, k < n → w.rangeAt b (off + k * 16) (adrL (f k)) ∧ ∀ j, j < 16 → f k j < 256
theorem asks_come {H : Type} {enc : TypeId × Value → H} {w : World} {held : Bool} {fuel : Nat} {A : Option Addr} {len cap : Nat} {x : DataW H × List MemPlace} (h : DataW.trod enc Try.prog w 0 (fun _ => true) held fuel 47 [.slice A len cap] = some x) :
    len < 9223372036854775808 ∧ ∃ f, AsksIn w w.heap.size A len f := by
  rcases DataW.trod_slice Try.underlying47 h with ⟨h1, _⟩ | ⟨a, len', cap', elems, rest, n, _, h1, _, hb, hle, hm, hlen, hel, _⟩
  · simp only [List.cons.injEq, Value.slice.injEq, and_true] at h1
    obtain ⟨_, rfl, _⟩ := h1
    exact ⟨by decide, fun _ _ => 0, fun h => absurd h (by omega)⟩
  · simp only [List.cons.injEq, Value.slice.injEq, and_true] at h1
    obtain ⟨rfl, rfl, rfl⟩ := h1
    have e23 : Try.prog.cellsOf 23 = 16 := by kernel_rfl
    rw [e23] at hel
    have each : ∀ k, ∃ q : Nat → Nat, k < len → (∃ cs : List Value, w.cells? 0 (a.add (k * 16)) 16 = some cs ∧ cs = adrL q) ∧ ∀ j, j < 16 → q j < 256 := fun k => by
      by_cases hk : k < len
      · have := hel k hk
        rw [List.getElem?_eq_getElem (by omega), Option.bind_eq_some_iff] at this
        obtain ⟨cs, h2, h3⟩ := this
        obtain ⟨i, h4, h5⟩ := addr_come h3
        exact ⟨i, fun _ => ⟨⟨cs, h2, h4⟩, h5⟩⟩
      · exact ⟨fun _ => 0, fun h => absurd h hk⟩
    obtain ⟨f, hf⟩ := Classical.axiomOfChoice each
    refine ⟨by unfold maxLen at hm; omega, f, fun hp => ?_⟩
    have cellat : ∀ k, k < len → ∀ j v, (adrL (f k))[j]? = some v → w.cell? ((a.add (k * 16)).add j) = some v := fun k hk j v hj => by
      obtain ⟨⟨cs, h2, h3⟩, _⟩ := hf k hk
      have h4 := World.cells?_some h2
      have hlj : j < 16 := by
        have := (List.getElem?_eq_some_iff.1 hj).1
        rwa [adrL_length] at this
      have := h4.2.2 j hlj
      rw [h3] at this
      rw [this]
      rw [List.getElem?_eq_getElem (by rw [adrL_length]; omega)] at hj ⊢
      exact hj
    have c0 := cellat 0 hp 0 _ rfl
    obtain ⟨c, t, z, q1, q2, _⟩ := cell_of c0
    have sp : a.spot = none := by
      cases hq : a.spot with
      | none => rfl
      | some y => rw [show ((a.add (0 * 16)).add 0).spot = a.spot by unfold Addr.add; split <;> (try split) <;> simp_all] at q2; exact hq.symm.trans q2
    obtain ⟨b, off, spot⟩ := a
    simp only at sp
    subst sp
    have e0 : ((⟨b, off, none⟩ : Addr).add (0 * 16)).add 0 = ⟨b, off, none⟩ := by rw [Addr.add_mid, Addr.add_mid]; simp
    rw [e0] at q1
    refine ⟨b, off, rfl, lt_of_blk q1, fun k hk => ⟨fun j v hj => ?_, (hf k hk).2⟩⟩
    have := cellat k hk j v hj
    rw [Addr.add_mid, Addr.add_mid] at this
    exact this
set_option maxRecDepth 100000 in
set_option maxHeartbeats 4000000 in
theorem play_out (p q : Option Addr) (len cap alen acap now : Nat) (w : World) (hl : len < 9223372036854775808) (hal : alen < 9223372036854775808) (hx : 150 < len ∨ 50 < alen) :
    Calls Try.prog 5 #[.slice p len cap, .int .u64 (now : Int), .slice q alen acap] w fun e w' => e = .returned (.bool true) ∧ Below w.heap.size w w' := by
  by_cases h1 : 150 < len
  · have t1 : decide ((150 : Int) < len) = true := by simp; omega
    clear hx h1
    go_enter Try.func5, Try.ntmps5
    go_wp2_with fail
    refine (lives_any w).mono ?_
    rintro e w2 ⟨rfl, b2⟩
    have HB := Lib.hid b2
    clear b2
    go_wp2_with fail
    go_ret
    exact ⟨rfl, HB.out⟩
  · have t1 : decide ((150 : Int) < len) = false := by simp; omega
    have t2 : decide ((50 : Int) < alen) = true := by simp; omega
    clear hx h1
    go_enter Try.func5, Try.ntmps5
    go_wp2_with fail
    refine (lives_any w).mono ?_
    rintro e w2 ⟨rfl, b2⟩
    have HB := Lib.hid b2
    clear b2
    go_wp2_with fail
    go_ret
    exact ⟨rfl, HB.out⟩
end Go.Proofs.Ytkhbchgocilclaa
