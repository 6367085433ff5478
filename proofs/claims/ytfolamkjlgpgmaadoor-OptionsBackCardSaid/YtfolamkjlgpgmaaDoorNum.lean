/- A cutter of bytes: a number of one byte, bytes, what is left; a cutter of bytes that come. No condition but that the bytes fit a machine. -/
import Derived.Test.YtfolamkjlgpgmaaDoorTake
import Derived.Laws.Bits64
namespace Go.Proofs.YtfolamkjlgpgmaaDoor
open Go.RowKit
set_option linter.unusedVariables false
set_option linter.unusedSimpArgs false
theorem or_byte {x : Nat} (hx : x < 256) : bits .or .u64 (IntKind.u64.wrap ((0 : Nat) : Int)) (IntKind.u64.wrap (x : Int)) = (x : Int) := by
  rw [u64_small (by decide), u64_small (by omega)]
  rw [(bits_nat .u64 64 (by decide) (fun n h0 h1 => by simp [IntKind.wrap, IntKind.signed, IntKind.bits]; omega) 0 x (by decide) (by omega)).2]
  simp
set_option maxRecDepth 100000 in
set_option maxHeartbeats 1000000 in
theorem num49_ok {p g c pos x : Nat} {bs : List Nat} (w : World) (h : CutAt w p g c pos bs) (hx : bs[pos]? = some x) (hb : x < 256) :
    Calls Tryd.prog 49 #[.pointer (some ⟨p, 0, none⟩), .int .i64 1] w fun e w' => e = .returned (.int .u64 (x : Int)) ∧ CutAt w' p g c (pos + 1) bs ∧ ∃ o, Turned p o w w' := by
  have hlt : pos < bs.length := (List.getElem?_eq_some_iff.1 hx).1
  have HT := Lib.hid (take78_ok 1 w h (by decide) (by omega))
  clear h
  go_enter Tryd.func49, Tryd.ntmps49
  go_wp2_with fail
  refine (HT.out).mono ?_
  rintro e w1 ⟨rfl, h1, o, ht⟩
  have c1 := h1.rd pos x hx
  have HC := Lib.hid h1
  have HO := Lib.hid ht
  have HR : Hid (bits .or .u64 0 (x : Int) = (x : Int)) := Lib.hid (by have := or_byte hb; rw [u64_small (by decide), u64_small (by omega)] at this; exact this)
  clear h1 ht HT
  go_wp2_with fail
  go_loop [4, 17] (fun v i => (i = .int .i64 0 ∧ v = .int .u64 0) ∨ (i = .int .i64 1 ∧ v = .int .u64 (x : Int))) (fun _ i => (1 - intOf i).toNat)
  case atStart => exact .inl ⟨rfl, rfl⟩
  case round =>
    rcases hrel with ⟨rfl, rfl⟩ | ⟨rfl, rfl⟩
    · go_wp2_with fail
      exact ⟨.inr ⟨rfl, congrArg (Value.int .u64) HR.out⟩, by decide⟩
    · go_wp2_with fail
      go_ret
      exact ⟨rfl, HC.out, o, HO.out⟩
set_option maxRecDepth 100000 in
set_option maxHeartbeats 1000000 in
theorem num49_bad {p : Nat} {A : Option Addr} {c : Nat} {fr : Bool} (w : World) (n : Nat) (h : w.heap[p]? = some (.cells #[.slice A n c, .bool fr] 112 (0, 0))) (hn : n = 0 ∨ fr = false) :
    Calls Tryd.prog 49 #[.pointer (some ⟨p, 0, none⟩), .int .i64 1] w fun e w' => e = .returned (.int .u64 0) ∧ CutBad w' p ∧ ∃ o, Turned p o w w' := by
  have HT := Lib.hid (take78_bad 1 w h (by rcases hn with rfl | hn; exact .inr (.inl (by decide)); exact .inr (.inr hn)))
  clear h hn
  go_enter Tryd.func49, Tryd.ntmps49
  go_wp2_with fail
  refine (HT.out).mono ?_
  rintro e w1 ⟨rfl, h1, o, ht⟩
  have HC := Lib.hid h1
  have HO := Lib.hid ht
  clear h1 ht HT
  go_wp2_with fail
  go_loop [4, 17] (fun v i => i = .int .i64 0 ∧ v = .int .u64 0) (fun _ i => (1 - intOf i).toNat)
  case atStart => exact ⟨rfl, rfl⟩
  case round =>
    obtain ⟨rfl, rfl⟩ := hrel
    go_wp2_with fail
    go_ret
    exact ⟨rfl, HC.out, o, HO.out⟩
set_option maxRecDepth 100000 in
set_option maxHeartbeats 1000000 in
theorem bytes50_ok {p g c pos : Nat} {bs : List Nat} (k : Nat) (w : World) (h : CutAt w p g c pos bs) (hk : 0 < k) (hk2 : pos + k ≤ bs.length) :
    Calls Tryd.prog 50 #[.pointer (some ⟨p, 0, none⟩), .int .i64 (k : Int)] w fun e w' => e = .returned (.slice (some ⟨g, pos, none⟩) k k) ∧ CutAt w' p g c (pos + k) bs ∧ ∃ o, Turned p o w w' := by
  have HT := Lib.hid (take78_ok k w h hk hk2)
  clear h hk hk2
  go_enter Tryd.func50, Tryd.ntmps50
  go_wp2_with fail
  refine (HT.out).mono ?_
  rintro e w1 ⟨rfl, h1, o, ht⟩
  have HC := Lib.hid h1
  have HO := Lib.hid ht
  clear h1 ht HT
  go_wp2_with fail
  go_ret
  exact ⟨rfl, HC.out, o, HO.out⟩
set_option maxRecDepth 100000 in
set_option maxHeartbeats 1000000 in
theorem bytes50_bad {p : Nat} {A : Option Addr} {n c : Nat} {fr : Bool} (k : Int) (w : World) (h : w.heap[p]? = some (.cells #[.slice A n c, .bool fr] 112 (0, 0))) (hk : k < 0 ∨ (n : Int) < k ∨ fr = false) :
    Calls Tryd.prog 50 #[.pointer (some ⟨p, 0, none⟩), .int .i64 k] w fun e w' => e = .returned (.slice none 0 0) ∧ CutBad w' p ∧ ∃ o, Turned p o w w' := by
  have HT := Lib.hid (take78_bad k w h hk)
  clear h hk
  go_enter Tryd.func50, Tryd.ntmps50
  go_wp2_with fail
  refine (HT.out).mono ?_
  rintro e w1 ⟨rfl, h1, o, ht⟩
  have HC := Lib.hid h1
  have HO := Lib.hid ht
  clear h1 ht HT
  go_wp2_with fail
  go_ret
  exact ⟨rfl, HC.out, o, HO.out⟩
set_option maxRecDepth 100000 in
set_option maxHeartbeats 1000000 in
theorem bad51 {p : Nat} {v : Value} {fr : Bool} (w : World) (h : w.heap[p]? = some (.cells #[v, .bool fr] 112 (0, 0))) :
    Calls Tryd.prog 51 #[.pointer (some ⟨p, 0, none⟩)] w fun e w' => e = .returned (.bool (!fr)) ∧ w = w' := by
  have c1 := cell_blk h 1
  clear h
  go_enter Tryd.func51, Tryd.ntmps51
  go_wp2_with fail
  go_ret
  exact ⟨rfl, rfl⟩
set_option maxRecDepth 100000 in
set_option maxHeartbeats 1000000 in
theorem left48 {p n c : Nat} {A : Option Addr} {fr : Bool} (w : World) (h : w.heap[p]? = some (.cells #[.slice A n c, .bool fr] 112 (0, 0))) :
    Calls Tryd.prog 48 #[.pointer (some ⟨p, 0, none⟩)] w fun e w' => e = .returned (.int .i64 (if fr then (n : Int) else 0)) ∧ w = w' := by
  have c0 := cell_blk h 0
  have HB := Lib.hid (bad51 w h)
  clear h
  go_enter Tryd.func48, Tryd.ntmps48
  go_wp2_with fail
  refine (HB.out).mono ?_
  rintro e w1 ⟨rfl, rfl⟩
  cases fr
  · go_wp2_with fail
    go_ret
    exact ⟨rfl, rfl⟩
  · go_wp2_with fail
    go_ret
    exact ⟨rfl, rfl⟩
end Go.Proofs.YtfolamkjlgpgmaaDoor
