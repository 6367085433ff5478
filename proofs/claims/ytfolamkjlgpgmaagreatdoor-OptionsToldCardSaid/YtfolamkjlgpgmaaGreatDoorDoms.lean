/- Several texts in one: Dom, Dom2, Dom3. No condition beyond those that each part names. -/
import Derived.Test.YtfolamkjlgpgmaaGreatDoorSpl
import Derived.Test.YtfolamkjlgpgmaaGreatDoorShelf
import Derived.Test.YtfolamkjlgpgmaaGreatDoorAppS
/- Names' parts, in plain words; may a text be one: the walks. No condition but that it is short. -/
namespace Go.Proofs.YtfolamkjlgpgmaaGreatDoor
open Go.RowKit
set_option linter.unusedVariables false
set_option linter.unusedSimpArgs false
/-- may a byte stand in a part? -/
def inS (c : UInt8) : Bool := (decide (97 ≤ c.toNat) && decide (c.toNat ≤ 122)) || (decide (48 ≤ c.toNat) && decide (c.toNat ≤ 57)) || (c.toNat == 45)
def cutSet : ByteArray := ⟨#[97, 98, 99, 100, 101, 102, 103, 104, 105, 106, 107, 108, 109, 110, 111, 112, 113, 114, 115, 116, 117, 118, 119, 120, 121, 122, 48, 49, 50, 51, 52, 53, 54, 55, 56, 57, 45]⟩
theorem inS_all : ((List.range 256).all fun n => cutSet.data.toList.contains (UInt8.ofNat n) == inS (UInt8.ofNat n)) = true := by decide +kernel
theorem inS_set (c : UInt8) : cutSet.data.toList.contains c = inS c := by
  have h := List.all_eq_true.1 inS_all c.toNat (List.mem_range.2 c.toNat_lt)
  rw [beq_iff_eq, UInt8.ofNat_toNat] at h
  exact h
/-- may these bytes be a part? -/
def partOk (p : List UInt8) : Bool := !p.isEmpty && decide (p.length ≤ 63) && p.all inS
def domOk (s : List UInt8) : Bool := decide (s.length ≤ 253) && (spl 46 s).all partOk
def lenB (p : List UInt8) : List Nat := p.length :: p.map (·.toNat)
/-- a name's bytes -/
def domB (s : List UInt8) : List Nat := if domOk s then (spl 46 s).flatMap lenB ++ [0] else []
theorem trim_nil (l cs : List UInt8) : (Lib.trimS l cs).isEmpty = l.all (cs.contains ·) := by
  have h1 : ∀ l : List UInt8, (Lib.trimLeftS l cs).isEmpty = l.all (cs.contains ·) := by
    intro l
    unfold Lib.trimLeftS
    induction l with
    | nil => rfl
    | cons x l ih =>
      rw [List.dropWhile_cons, List.all_cons]
      by_cases h : cs.contains x = true
      · rw [if_pos h, ih, h, Bool.true_and]
      · rw [if_neg h]
        have : cs.contains x = false := by simpa using h
        rw [this]; rfl
  have h2 : ∀ l : List UInt8, (Lib.trimRightS l cs).all (cs.contains ·) = l.all (cs.contains ·) := by
    intro l
    unfold Lib.trimRightS
    rw [List.all_reverse]
    have h3 : ∀ l : List UInt8, (l.dropWhile (cs.contains ·)).all (cs.contains ·) = l.all (cs.contains ·) := by
      intro l
      induction l with
      | nil => rfl
      | cons x l ih =>
        rw [List.dropWhile_cons, List.all_cons]
        by_cases h : cs.contains x = true
        · rw [if_pos h, ih, h, Bool.true_and]
        · rw [if_neg h, List.all_cons]
    rw [h3, List.all_reverse]
  unfold Lib.trimS
  rw [h1, h2]
set_option maxRecDepth 100000 in
set_option maxHeartbeats 1000000 in
theorem part67 (s : ByteArray) (hs : s.size ≤ 1000000000) (w : World) : Calls Tryz.prog 64 #[.string s] w (BoolPost (partOk s.data.toList) w) := by
  have HT := Lib.hid (Tryz.strings_Trim s cutSet w (by omega) (by decide) (ascii_of_all (by decide)))
  have hlen : s.data.toList.length = s.size := by simp
  by_cases h0 : s.size = 0
  · have hs0 : s = ⟨#[]⟩ := by
      apply ByteArray.ext
      exact Array.eq_empty_of_size_eq_zero h0
    subst hs0
    clear HT
    go_enter Tryz.func64, Tryz.ntmps64
    go_wp2_with fail
    go_ret
    exact ⟨rfl, Below.refl _ _⟩
  · have hne : s.data.toList ≠ [] := by intro e; rw [e] at hlen; simp at hlen; omega
    have hn : ¬ s.toList = [] := by rw [Lib.toList_data]; exact hne
    have hn2 : s.toList.isEmpty = false := by cases h : s.toList with
      | nil => exact absurd h hn
      | cons a b => rfl
    have hemp : s.data.toList.isEmpty = false := by cases h : s.data.toList with
      | nil => exact absurd h hne
      | cons a b => rfl
    by_cases h63 : s.size ≤ 63
    · have h63' : (s.size : Int) ≤ 63 := by omega
      obtain ⟨r, hr⟩ : ∃ r : ByteArray, r = ⟨(Lib.trimS s.data.toList cutSet.data.toList).toArray⟩ := ⟨_, rfl⟩
      rw [← hr] at HT
      have hall : r.data.toList.isEmpty = s.data.toList.all inS := by
        rw [hr]
        show (Lib.trimS s.data.toList cutSet.data.toList).isEmpty = _
        rw [trim_nil]
        congr 1
        funext c
        exact inS_set c
      have HP : Hid (partOk s.data.toList = s.data.toList.all inS) := Lib.hid (by unfold partOk; rw [hemp, hlen, decide_eq_true h63]; rfl)
      cases hb : s.data.toList.all inS with
      | true =>
        rw [hb] at hall HP
        have hr0 : r = ⟨#[]⟩ := by
          apply ByteArray.ext
          have := List.isEmpty_iff.1 hall
          exact Array.toList_inj.1 (by simpa using this)
        rw [hr0] at HT
        clear hr hr0 hb hall hne hemp hlen
        go_enter Tryz.func64, Tryz.ntmps64
        go_wp2_with fail
        refine (HT.out).mono ?_
        rintro e w1 ⟨rfl, hb⟩
        have HB := Lib.hid hb
        clear hb HT
        go_wp2_with fail
        go_ret
        exact ⟨by rw [HP.out]; rfl, HB.out⟩
      | false =>
        rw [hb] at hall HP
        have hrn : ¬ r.toList = [] := by
          rw [Lib.toList_data]
          intro e
          rw [e] at hall
          cases hall
        have hrn2 : r.toList.isEmpty = false := by cases h : r.toList with
          | nil => exact absurd h hrn
          | cons a b => rfl
        clear hr hb hall hne hemp hlen
        go_enter Tryz.func64, Tryz.ntmps64
        go_wp2_with fail
        refine (HT.out).mono ?_
        rintro e w1 ⟨rfl, hb⟩
        have HB := Lib.hid hb
        clear hb HT
        go_wp2_with fail
        go_ret
        exact ⟨by rw [HP.out]; rfl, HB.out⟩
    · have h63' : ¬ (s.size : Int) ≤ 63 := by omega
      have HP : Hid (partOk s.data.toList = false) := Lib.hid (by unfold partOk; rw [hlen, decide_eq_false h63]; simp)
      clear HT hne hemp hlen
      go_enter Tryz.func64, Tryz.ntmps64
      go_wp2_with fail
      go_ret
      exact ⟨by rw [HP.out]; rfl, Below.refl _ _⟩
set_option maxRecDepth 100000 in
set_option maxHeartbeats 1000000 in
theorem not66 (s : ByteArray) (hs : s.size ≤ 1000000000) (w : World) : Calls Tryz.prog 63 #[.string s] w (BoolPost (!partOk s.data.toList) w) := by
  have HP := Lib.hid (part67 s hs w)
  obtain ⟨b, hb⟩ : ∃ b, b = partOk s.data.toList := ⟨_, rfl⟩
  rw [← hb] at HP ⊢
  clear hb
  go_enter Tryz.func63, Tryz.ntmps63
  go_wp2_with fail
  refine (HP.out).mono ?_
  rintro e w1 ⟨rfl, h1⟩
  have HB := Lib.hid h1
  clear h1 HP
  cases b <;> (go_wp2_with fail) <;> go_ret <;> exact ⟨rfl, HB.out⟩
end Go.Proofs.YtfolamkjlgpgmaaGreatDoor

/- Is one of the parts none: the walks; a text split at dots. No condition but that the texts are short. -/
namespace Go.Proofs.YtfolamkjlgpgmaaGreatDoor
open Go.RowKit
set_option linter.unusedVariables false
set_option linter.unusedSimpArgs false
/-- is one of them no part? -/
def anyBad (ps : List ByteArray) : Bool := ps.any fun p => !partOk p.data.toList
def rowT (ps : List ByteArray) : Array Value := (ps.map Value.string).toArray
theorem rowT_get {ps : List ByteArray} {i : Nat} {p : ByteArray} (h : ps[i]? = some p) : (rowT ps)[i]? = some (.string p) := by simp [rowT, h]
def IdxBad (ps : List ByteArray) (w : World) (e : Ending) (w' : World) : Prop := ∃ z : Int, e = .returned (.int .i64 z) ∧ decide (0 ≤ z) = anyBad ps ∧ Below w.heap.size w w'
set_option maxRecDepth 100000 in
set_option maxHeartbeats 1000000 in
theorem idx82 {b n c : Nat} {ps : List ByteArray} (w : World) (h : w.heap[b]? = some (.cells (rowT ps) 9 (0, 0))) (hn : ps.length = n) (hs : ∀ p ∈ ps, p.size ≤ 1000000000) (hm : n ≤ 1000000000) :
    Calls Tryz.prog 81 #[.slice (some ⟨b, 0, none⟩) n c, .func (.func 63) #[] #[]] w (IdxBad ps w) := by
  have HN := Lib.hid hn
  have HS := Lib.hid hs
  have HB := Lib.hid h
  clear h hn hs
  go_enter Tryz.func81, Tryz.ntmps81
  go_wp2_with fail
  go_loopw [8] (fun i wr => ∃ k : Nat, k ≤ n ∧ i = .int .i64 k ∧ (∀ j p, j < k → ps[j]? = some p → partOk p.data.toList = true) ∧ Below w.heap.size w wr) (fun i _ => n - (intOf i).toNat)
  case atStart => exact ⟨0, Nat.zero_le _, rfl, fun j p hj => absurd hj (by omega), Below.refl _ _⟩
  case round =>
    obtain ⟨k, hk, rfl, hno, hW⟩ := hrel
    have HNO := Lib.hid hno
    clear hno
    by_cases hlt : k < n
    · obtain ⟨p, hp⟩ : ∃ p, ps[k]? = some p := ⟨ps[k]'(by rw [HN.out]; exact hlt), List.getElem?_eq_getElem _⟩
      have c0 := cell_blk ((hW.block b (lt_of_blk HB.out)).trans HB.out) k
      rw [rowT_get hp] at c0
      have HC := Lib.hid (not66 p (HS.out p (List.mem_of_getElem? hp)) wr)
      have HP := Lib.hid hp
      have HW := Lib.hid hW
      have hsz := hW.size
      clear hp hW
      cases hb : partOk p.data.toList with
      | true =>
        rw [hb] at HC
        have HNX : Hid (∀ j q, j < k + 1 → ps[j]? = some q → partOk q.data.toList = true) := Lib.hid (by
          intro j q hj hq
          rcases Nat.lt_or_ge j k with h1 | h1
          · exact HNO.out j q h1 hq
          · obtain rfl : j = k := by omega
            have := HP.out
            rw [hq] at this
            cases this
            exact hb)
        clear hb
        go_wp2_with fail
        refine (HC.out).mono ?_
        rintro e w1 ⟨rfl, hb1⟩
        have HB1 := Lib.hid (HW.out.trans (hb1.mono hsz))
        clear hb1 HC
        go_wp2_with fail
        go_roundw
        case rel => exact ⟨k + 1, by omega, by go_num, HNX.out, HB1.out⟩
        case measure => simp [intOf]; omega
      | false =>
        rw [hb] at HC
        have HA : Hid (anyBad ps = true) := Lib.hid (List.any_eq_true.2 ⟨p, List.mem_of_getElem? HP.out, by rw [hb]; rfl⟩)
        clear hb
        go_wp2_with fail
        refine (HC.out).mono ?_
        rintro e w1 ⟨rfl, hb1⟩
        have HB1 := Lib.hid (HW.out.trans (hb1.mono hsz))
        clear hb1 HC
        go_wp2_with fail
        go_ret
        exact ⟨(k : Int), rfl, by rw [HA.out]; exact decide_eq_true (by omega), HB1.out⟩
    · obtain rfl : k = n := by omega
      have HW := Lib.hid hW
      clear hW
      go_wp2_with fail
      go_ret
      refine ⟨-1, rfl, ?_, HW.out⟩
      have : anyBad ps = false := by
        unfold anyBad
        rw [List.any_eq_false]
        intro p hp
        obtain ⟨j, hj, rfl⟩ := List.getElem_of_mem hp
        rw [HNO.out j _ (by rw [← HN.out]; exact hj) (List.getElem?_eq_getElem hj)]
        decide
      rw [this]
      rfl
set_option maxRecDepth 100000 in
set_option maxHeartbeats 1000000 in
theorem any69 {b n c : Nat} {ps : List ByteArray} (w : World) (h : w.heap[b]? = some (.cells (rowT ps) 9 (0, 0))) (hn : ps.length = n) (hs : ∀ p ∈ ps, p.size ≤ 1000000000) (hm : n ≤ 1000000000) :
    Calls Tryz.prog 66 #[.slice (some ⟨b, 0, none⟩) n c, .func (.func 63) #[] #[]] w (BoolPost (anyBad ps) w) := by
  have HI := Lib.hid (idx82 (c := c) w h hn hs hm)
  clear h hn hs
  go_enter Tryz.func66, Tryz.ntmps66
  go_wp2_with fail
  refine (HI.out).mono ?_
  rintro e w1 ⟨z, rfl, hz, hb⟩
  have HB := Lib.hid hb
  have HZ := Lib.hid hz
  clear hb HI hz
  go_wp2_with fail
  go_ret
  exact ⟨by rw [← HZ.out]; rfl, HB.out⟩
/-- a text's pieces -/
def spB (s : ByteArray) (c : UInt8) : List ByteArray := Lib.splitB ⟨#[c]⟩ 0 (Lib.countB s ⟨#[c]⟩) s
theorem spB_data (s : ByteArray) (c : UInt8) : (spB s c).map (·.data.toList) = spl c s.data.toList := by
  unfold spB
  rw [Lib.splitB_data]
  exact (split_spl c _ s.data.toList (Nat.le_refl _)).1
theorem spB_length (s : ByteArray) (c : UInt8) : (spB s c).length = Lib.countB s ⟨#[c]⟩ + 1 := by
  have h := congrArg List.length (spB_data s c)
  rw [List.length_map] at h
  rw [h]
  exact (split_spl c _ s.data.toList (Nat.le_refl _)).2
theorem spB_le (s : ByteArray) (c : UInt8) : (spB s c).length ≤ s.size + 1 := by
  have h := congrArg List.length (spB_data s c)
  rw [List.length_map] at h
  rw [h]
  have := spl_length c s.data.toList
  simpa using this
theorem spB_size {s p : ByteArray} {c : UInt8} (h : p ∈ spB s c) : p.size ≤ s.size := by
  have h1 : p.data.toList ∈ spl c s.data.toList := by rw [← spB_data]; exact List.mem_map.2 ⟨p, h, rfl⟩
  have := spl_piece h1
  simpa using this
theorem split68 (s : ByteArray) (w : World) (m : Int) (hm : w.cell? ⟨0, 0, none⟩ = some (.int .i64 m)) (hs : s.size < 4294967281) :
    Calls Tryz.prog 65 #[.string s, .string ⟨#[46]⟩] w fun e w' => e = .returned (.slice (some ⟨w.heap.size, 0, none⟩) (spB s 46).length (spB s 46).length) ∧ w' = w.alloc (.cells (rowT (spB s 46)) 9) := by
  rw [spB_length]
  exact Tryz.strings_Split s ⟨#[46]⟩ m w hs hm (Nat.le_refl _)
theorem bad_dom {s : ByteArray} (h : s.size ≤ 253) : domOk s.data.toList = !anyBad (spB s 46) := by
  unfold domOk anyBad
  rw [← spB_data]
  have : s.data.toList.length = s.size := by simp
  rw [this, decide_eq_true h, Bool.true_and, List.all_map]
  rw [List.not_any_eq_all_not]
  congr 1
  funext p
  simp
end Go.Proofs.YtfolamkjlgpgmaaGreatDoor

/- An option of names: the program's walk. No condition but that they are few, and that a number stands in the library's variable. -/
namespace Go.Proofs.YtfolamkjlgpgmaaGreatDoor
open Go.RowKit
set_option linter.unusedVariables false
set_option linter.unusedSimpArgs false
/-- a slice at A reads as these texts, below block B -/
structure DomsAt (w : World) (B : Nat) (A : Option Addr) (L : List ByteArray) : Prop where
  at_ : L ≠ [] → ∃ b o, A = some ⟨b, o, none⟩ ∧ b < B ∧ ∀ i s, L[i]? = some s → w.cell? ⟨b, o + i, none⟩ = some (.string s)
  size : ∀ s ∈ L, s.size ≤ 4000
  many : L.length ≤ 4000
theorem DomsAt.below {w w' : World} {B : Nat} {A : Option Addr} {L : List ByteArray} (h : DomsAt w B A L) (hb : Below B w w') : DomsAt w' B A L := by
  refine ⟨fun hl => ?_, h.size, h.many⟩
  obtain ⟨b, o, e, hlt, hc⟩ := h.at_ hl
  exact ⟨b, o, e, hlt, fun i s hs => (hb.cell (p := ⟨b, o + i, none⟩) hlt).trans (hc i s hs)⟩
theorem DomsAt.mono {w : World} {B C : Nat} {A : Option Addr} {L : List ByteArray} (h : DomsAt w B A L) (hB : B ≤ C) : DomsAt w C A L := by
  refine ⟨fun hl => ?_, h.size, h.many⟩
  obtain ⟨b, o, e, hlt, hc⟩ := h.at_ hl
  exact ⟨b, o, e, by omega, hc⟩
theorem spl_total (c : UInt8) : ∀ s : List UInt8, ((spl c s).flatMap lenB).length = s.length + 1
  | [] => rfl
  | x :: s => by
    have ih := spl_total c s
    unfold spl
    split
    · rw [List.flatMap_cons, List.length_append, ih, List.length_cons]
      simp [lenB]; omega
    · split
      · rename_i e; exact absurd e (spl_ne c s)
      · rename_i q qs e
        rw [e, List.flatMap_cons, List.length_append] at ih
        rw [List.flatMap_cons, List.length_append, List.length_cons]
        simp [lenB] at ih ⊢; omega
theorem domB_le (s : List UInt8) : (domB s).length ≤ s.length + 2 := by
  unfold domB
  split
  · rw [List.length_append, spl_total]; simp
  · simp
/-- what names' option has -/
def domsB (n : Nat) (L : List ByteArray) : List Nat := [0, 0] ++ be4 n ++ L.flatMap fun s => domB s.data.toList
theorem domsB_succ {n k : Nat} {L : List ByteArray} {s : ByteArray} (h : L[k]? = some s) : domsB n (L.take (k + 1)) = domsB n (L.take k) ++ domB s.data.toList := by
  unfold domsB
  rw [List.take_add_one, h]
  simp
theorem domsB_le {n : Nat} {L : List ByteArray} (h : ∀ s ∈ L, s.size ≤ 4000) : (domsB n L).length ≤ 6 + L.length * 4002 := by
  unfold domsB
  have e6 : ([0, 0] ++ be4 n).length = 6 := rfl
  rw [List.length_append, e6]
  have : (L.flatMap fun s => domB s.data.toList).length ≤ L.length * 4002 := by
    induction L with
    | nil => simp
    | cons s L ih =>
      have h1 := ih (fun t ht => h t (List.mem_cons_of_mem _ ht))
      have h2 := h s List.mem_cons_self
      have h3 := domB_le s.data.toList
      have h4 : s.data.toList.length = s.size := by simp
      rw [List.flatMap_cons, List.length_append, List.length_cons]
      omega
  omega
def lenT (ps : List ByteArray) : List Nat := ps.flatMap fun p => lenB p.data.toList
theorem lenT_succ {ps : List ByteArray} {k : Nat} {p : ByteArray} (h : ps[k]? = some p) : lenT (ps.take (k + 1)) = lenT (ps.take k) ++ ([p.size] ++ bytesS p) := by
  unfold lenT
  rw [List.take_add_one, h]
  simp [lenB, bytesS]
theorem lenT_le (ps : List ByteArray) (k : Nat) : (lenT (ps.take k)).length ≤ (lenT ps).length := by
  conv => rhs; rw [← List.take_append_drop k ps]
  unfold lenT
  rw [List.flatMap_append, List.length_append]
  omega
theorem lenT_spl (s : ByteArray) : lenT (spB s 46) = (spl 46 s.data.toList).flatMap lenB := by
  rw [← spB_data, List.flatMap_map]
  rfl
theorem lenT_dom {s : ByteArray} (h : domOk s.data.toList = true) : domB s.data.toList = lenT (spB s 46) ++ [0] := by
  unfold domB
  rw [if_pos h, lenT_spl]
theorem part_short {s p : ByteArray} (h : domOk s.data.toList = true) (hp : p ∈ spB s 46) : p.size ≤ 63 := by
  unfold domOk at h
  simp only [Bool.and_eq_true] at h
  have h1 : p.data.toList ∈ spl 46 s.data.toList := by rw [← spB_data]; exact List.mem_map.2 ⟨p, hp, rfl⟩
  have h2 := List.all_eq_true.1 h.2 _ h1
  unfold partOk at h2
  simp only [Bool.and_eq_true, decide_eq_true_eq] at h2
  have h3 := h2.1.2
  simpa using h3
set_option maxRecDepth 100000 in
set_option maxHeartbeats 4000000 in
theorem dom35 {A : Option Addr} {c n : Nat} {L : List ByteArray} (hn : n < 4294967296) (w : World) (h : DomsAt w w.heap.size A L) (hmx : ∃ m : Int, w.cell? ⟨0, 0, none⟩ = some (.int .i64 m)) :
    Calls Tryz.prog 25 #[.int .u32 (n : Int), .slice A L.length c] w (MadePost 31 (domsB n L) w) := by
  obtain ⟨mx, hmx⟩ := hmx
  have h1 := heap_alloc_new w (.cells #[.int .u8 0, .slice none 0 0] 24)
  have hal : Below w.heap.size w (w.alloc (.cells #[.int .u8 0, .slice none 0 0] 24)) := (Below.refl _ _).alloc (Nat.le_refl _) _
  have HP := Lib.hid (life65 n hn (w.alloc (.cells #[.int .u8 0, .slice none 0 0] 24)))
  have hm := h.many
  have HO := Lib.hid h
  have HMX := Lib.hid hmx
  obtain ⟨m, hm0⟩ : ∃ m, L.length = m := ⟨_, rfl⟩
  have HM := Lib.hid hm0
  rw [hm0] at hm ⊢
  have H1 := Lib.hid h1
  have HB := Lib.hid hal
  have hsz : (w.alloc (.cells #[.int .u8 0, .slice none 0 0] 24)).heap.size = w.heap.size + 1 := by simp
  clear h h1 hal hm0 hmx
  go_enter Tryz.func25, Tryz.ntmps25
  go_wp2_with fail
  refine (HP.out).mono ?_
  rintro e w1 ⟨A5, c5, k5, rfl, h1, h2, h3, h4⟩
  rw [hsz] at h3 h4
  have HI : Hid (OwnC w1 (w.heap.size + 1) (.slice A5 6 c5) (domsB n (L.take 0))) := Lib.hid ⟨A5, c5, k5, rfl, .inr h1, Nat.le_of_eq h1.symm, h2, h3⟩
  have hb1 : Below w.heap.size w w1 := HB.out.trans (h4.mono (by omega))
  have HB1 := Lib.hid hb1
  have HQ1 := Lib.hid ((h4.block _ (by omega)).trans H1.out)
  have hlow : w.heap.size + 1 ≤ w1.heap.size := by have := h4.size; omega
  have e6 : ([0, 0] ++ be4 n).length = 6 := rfl
  rw [e6]
  clear h1 h2 h3 h4 hb1 HP hsz
  go_wp2_with fail
  go_loopw [5, 16] (fun v i wr => ∃ k : Nat, k ≤ m ∧ i = .int .i64 k ∧ OwnC wr (w.heap.size + 1) v (domsB n (L.take k)) ∧ Below (w.heap.size + 1) w1 wr) (fun _ i _ => m - (intOf i).toNat)
  case atStart => exact ⟨0, Nat.zero_le _, rfl, HI.out, Below.refl _ _⟩
  case round =>
    clear HI
    obtain ⟨k, hk, rfl, hO, hW⟩ := hrel
    obtain ⟨Y, hY⟩ : ∃ Y, Y = wr := ⟨_, rfl⟩
    subst hY
    have hszr := hW.size
    have HW := Lib.hid hW
    have HOC := Lib.hid hO
    by_cases hlt : k < m
    · obtain ⟨s, hs⟩ : ∃ s, L[k]? = some s := ⟨L[k]'(by rw [HM.out]; exact hlt), List.getElem?_eq_getElem _⟩
      have hb0r : Below w.heap.size w Y := HB1.out.trans (hW.mono (by omega))
      have hO2 := HO.out.below hb0r
      obtain ⟨b, o, rfl, hb, hc⟩ := hO2.at_ (by rintro rfl; simp at hs)
      have c0 := hc k s hs
      have hss := HO.out.size s (List.mem_of_getElem? hs)
      have HS := Lib.hid (domsB_succ (n := n) hs)
      have hdl := domsB_le (n := n) (L := L.take k) (fun t ht => HO.out.size t (List.mem_of_mem_take ht))
      rw [List.length_take, HM.out, Nat.min_eq_left hk] at hdl
      have HSP := Lib.hid (split68 s Y mx ((hb0r.cell (p := ⟨0, 0, none⟩) (lt_of_cell HMX.out)).trans HMX.out) (by omega))
      have hsb := heap_alloc_new Y (.cells (rowT (spB s 46)) 9)
      have hbS : Below Y.heap.size Y (Y.alloc (.cells (rowT (spB s 46)) 9)) := (Below.refl _ _).alloc (Nat.le_refl _) _
      have hOS := hO.below hbS
      have hpl := spB_le s 46
      have hpz : ∀ p ∈ spB s 46, p.size ≤ 1000000000 := fun p hp => by have := spB_size hp; omega
      have HAN := Lib.hid (any69 (c := (spB s 46).length) (Y.alloc (.cells (rowT (spB s 46)) 9)) hsb rfl hpz (by omega))
      have HSB := Lib.hid hsb
      have HOS := Lib.hid hOS
      have HWS := Lib.hid (hW.trans (hbS.mono hszr |>.mono (by omega)))
      obtain ⟨np, hnp⟩ : ∃ np, (spB s 46).length = np := ⟨_, rfl⟩
      have HNP := Lib.hid hnp
      rw [hnp] at HSP HAN hpl
      have hsz0 : Y.heap.size + 1 = (Y.alloc (.cells (rowT (spB s 46)) 9)).heap.size := by simp
      clear hs hO2 hc hb0r hO hW hsb hbS hOS hpz hnp HOC
      obtain ⟨YS, hYS⟩ : ∃ YS, YS = Y.alloc (.cells (rowT (spB s 46)) 9) := ⟨_, rfl⟩
      rw [← hYS] at HSP HAN HSB HOS HWS hsz0
      clear hYS
      have hszs := HWS.out.size
      by_cases h253 : s.size ≤ 253
      · have h253' : ¬ (253 : Int) < (s.size : Int) := by omega
        have hbd := bad_dom h253
        cases hbad : anyBad (spB s 46) with
        | true =>
          rw [hbad] at HAN hbd
          have HE : Hid (domB s.data.toList = []) := Lib.hid (by unfold domB; rw [hbd]; rfl)
          clear hbad hbd
          go_wp2_with fail
          refine (HSP.out).mono ?_
          rintro e w2 ⟨rfl, rfl⟩
          go_wp2_with fail
          refine (HAN.out).mono ?_
          rintro e w3 ⟨rfl, hb3⟩
          have HR : Hid (OwnC w3 (w.heap.size + 1) u5 (domsB n (L.take (k + 1)))) := Lib.hid (by rw [HS.out, HE.out, List.append_nil]; exact HOS.out.below hb3)
          have HWR := Lib.hid (HWS.out.trans (hb3.mono (by omega)))
          clear hb3
          go_wp2_with fail
          go_roundw
          case rel => exact ⟨k + 1, by omega, by go_num, HR.out, HWR.out⟩
          case measure => simp [intOf]; omega
        | false =>
          rw [hbad] at HAN hbd
          clear hbad
          go_wp2_with fail
          refine (HSP.out).mono ?_
          rintro e w2 ⟨rfl, rfl⟩
          go_wp2_with fail
          refine (HAN.out).mono ?_
          rintro e w3 ⟨rfl, hb3⟩
          have hsb3 := (hb3.block _ (lt_of_blk HSB.out)).trans HSB.out
          have HDK : Hid (domOk s.data.toList = true) := Lib.hid hbd
          have e0 : domsB n (L.take k) ++ lenT ((spB s 46).take 0) = domsB n (L.take k) := List.append_nil _
          have HO3 : Hid (OwnC w3 (w.heap.size + 1) u5 (domsB n (L.take k) ++ lenT ((spB s 46).take 0))) := Lib.hid (by rw [e0]; exact HOS.out.below hb3)
          clear e0
          have HW3 := Lib.hid (HWS.out.trans (hb3.mono (by omega)))
          have HSB3 := Lib.hid hsb3
          have hlt9 : (domsB n (L.take k) ++ lenT (spB s 46) ++ [0]).length ≤ 100000000 := by
            have h9 := domB_le s.data.toList
            rw [lenT_dom hbd, List.length_append] at h9
            have el : s.data.toList.length = s.size := by simp
            rw [List.length_append, List.length_append]
            simp only [List.length_singleton] at h9 ⊢
            omega
          have HLT := Lib.hid hlt9
          clear hb3 hsb3 hbd hlt9 HOS HWS
          go_wp2_with fail
          go_loopw [5, 32] (fun v i W => ∃ j : Nat, j ≤ np ∧ i = .int .i64 j ∧ OwnC W (w.heap.size + 1) v (domsB n (L.take k) ++ lenT ((spB s 46).take j)) ∧ Below (w.heap.size + 1) w1 W ∧ W.heap[Y.heap.size]? = some (.cells (rowT (spB s 46)) 9 (0, 0))) (fun _ i _ => np - (intOf i).toNat)
          case atStart => exact ⟨0, Nat.zero_le _, rfl, HO3.out, HW3.out, HSB3.out⟩
          case round =>
            clear HO3 HW3 HSB3
            obtain ⟨j, hj, rfl, hO, hW, hR⟩ := hrel
            have hszw := hW.size
            have HW := Lib.hid hW
            have HRR := Lib.hid hR
            have hdlj : (domsB n (L.take k) ++ lenT ((spB s 46).take j)).length + 66 ≤ 1000000000 := by
              have h1 := lenT_le (spB s 46) j
              have h2 := HLT.out
              rw [List.length_append, List.length_append] at h2
              rw [List.length_append]
              simp only [List.length_singleton] at h2
              omega
            by_cases hlj : j < np
            · obtain ⟨p, hp⟩ : ∃ p, (spB s 46)[j]? = some p := ⟨(spB s 46)[j]'(by rw [HNP.out]; exact hlj), List.getElem?_eq_getElem _⟩
              have c0 := cell_blk hR j
              rw [rowT_get hp] at c0
              have hps := part_short HDK.out (List.mem_of_getElem? hp)
              have HLS := Lib.hid (lenT_succ hp)
              obtain ⟨D, hD⟩ : ∃ D, D = domsB n (L.take k) ++ lenT ((spB s 46).take j) := ⟨_, rfl⟩
              rw [← hD] at hO hdlj
              have HOA : Hid (OwnC (wr.alloc (.cells (row8 [p.size]).toArray 5)) (w.heap.size + 1) u5 D) := Lib.hid (hO.below ((Below.refl _ _).alloc (Nat.le_refl _) _))
              have HAD : Hid (∀ i u, (row8 [p.size])[i]? = some u → (wr.alloc (.cells (row8 [p.size]).toArray 5)).cell? ((⟨wr.heap.size, 0, none⟩ : Addr).add i) = some u) := Lib.hid (by
                intro i u hu
                rw [Addr.add_mid, Nat.zero_add, cell_blk (heap_alloc_new _ _), List.getElem?_toArray]
                exact hu)
              have hp8 : (p.size : Int) % 256 = p.size := by omega
              have HDD := Lib.hid hD
              clear hp hO hW hR hD
              go_wp2_with (at_builtin; refine app8k rfl _ _ rfl (w.heap.size + 1) _ D rfl HOA.out ⟨wr.heap.size, 0, none⟩ 1 1 [p.size] rfl rfl (by decide) HAD.out ?c3 ?c4 ?_)
              case c3 => omega
              case c4 => simp; omega
              intro v5 w5 ho5 hb5 hk5
              have HB5 := Lib.hid hb5
              have HK5 := Lib.hid hk5
              have hs5 := hb5.size
              have hsx : w.heap.size + 1 ≤ w5.heap.size := by simp at hs5; omega
              obtain ⟨D5, hD5⟩ : ∃ D5, D5 = D ++ [p.size] := ⟨_, rfl⟩
              obtain ⟨n5, hn5⟩ : ∃ n5, n5 = D.length + 1 := ⟨_, rfl⟩
              rw [← hD5, ← hn5] at ho5
              have HFW : Hid (n5 + p.size ≤ 1000000000) := Lib.hid (by omega)
              have HO5 := Lib.hid ho5
              have HD5 := Lib.hid hD5
              have HN5 := Lib.hid hn5
              obtain ⟨A5', c5', rfl, -⟩ := own_slice2 ho5
              clear ho5 hb5 hk5 hs5 hD5 hn5
              go_wp2_with (at_builtin; refine appS rfl _ _ rfl (w.heap.size + 1) _ D5 n5 rfl HO5.out p rfl HFW.out hsx ?_)
              intro v6 w6 ho6 hg6
              have HR6 : Hid (OwnC w6 (w.heap.size + 1) v6 (domsB n (L.take k) ++ lenT ((spB s 46).take (j + 1)))) := Lib.hid (OwnC.of_own (by
                have e : domsB n (L.take k) ++ lenT ((spB s 46).take (j + 1)) = D5 ++ bytesS p := by rw [HLS.out, HD5.out, HDD.out]; simp
                have e2 : (D5 ++ bytesS p).length = n5 + p.size := by rw [List.length_append, bytesS_length, HD5.out, HN5.out]; simp
                rw [e, e2]
                exact ho6))
              have hal : Below wr.heap.size wr (wr.alloc (.cells (row8 [p.size]).toArray 5)) := (Below.refl _ _).alloc (Nat.le_refl _) _
              have HW6 := Lib.hid ((HW.out.trans ((hal.mono (by omega)).trans HB5.out)).trans (Below.grown' (Below.refl _ _) hg6 hsx (fun k hk => (HO5.out.lt k hk).1)))
              have HRR6 := Lib.hid (Keep5.grown HO5.out hg6 _ _ _ _ (HK5.out _ _ _ _ (Keep5.below hal _ _ _ _ HRR.out (by decide)) (by decide)) (by decide))
              clear ho6 hg6 hal
              go_wp2_with fail
              go_roundw
              case rel => exact ⟨j + 1, by omega, by go_num, HR6.out, HW6.out, HRR6.out⟩
              case measure => simp [intOf]; omega
            · obtain rfl : j = np := by omega
              have ej : (spB s 46).take j = spB s 46 := List.take_of_length_le (by rw [HNP.out]; exact Nat.le_refl _)
              rw [ej] at hO hdlj
              obtain ⟨D, hD⟩ : ∃ D, D = domsB n (L.take k) ++ lenT (spB s 46) := ⟨_, rfl⟩
              rw [← hD] at hO hdlj
              have HOA : Hid (OwnC (wr.alloc (.cells (row8 [0]).toArray 5)) (w.heap.size + 1) u5 D) := Lib.hid (hO.below ((Below.refl _ _).alloc (Nat.le_refl _) _))
              have HAD : Hid (∀ i u, (row8 [0])[i]? = some u → (wr.alloc (.cells (row8 [0]).toArray 5)).cell? ((⟨wr.heap.size, 0, none⟩ : Addr).add i) = some u) := Lib.hid (by
                intro i u hu
                rw [Addr.add_mid, Nat.zero_add, cell_blk (heap_alloc_new _ _), List.getElem?_toArray]
                exact hu)
              have HDD := Lib.hid hD
              clear hO hW hR hD ej
              go_wp2_with (at_builtin; refine app8k rfl _ _ rfl (w.heap.size + 1) _ D rfl HOA.out ⟨wr.heap.size, 0, none⟩ 1 1 [0] rfl rfl (by decide) HAD.out ?c3 ?c4 ?_)
              case c3 => omega
              case c4 => simp; omega
              intro v5 w5 ho5 hb5 hk5
              have HR5 : Hid (OwnC w5 (w.heap.size + 1) v5 (domsB n (L.take (k + 1)))) := Lib.hid (OwnC.of_own (by
                have e : domsB n (L.take (k + 1)) = D ++ [0] := by rw [HS.out, lenT_dom HDK.out, HDD.out]; simp
                rw [e, List.length_append]
                exact ho5))
              have HW5 := Lib.hid ((HW.out.trans (((Below.refl wr.heap.size wr).alloc (Nat.le_refl _) (.cells (row8 [0]).toArray 5)).mono (by omega))).trans hb5)
              clear ho5 hb5 hk5
              go_wp2_with fail
              go_roundw
              case rel => exact ⟨k + 1, by omega, by go_num, HR5.out, HW5.out⟩
              case measure => simp [intOf]; omega
      · have h253' : (253 : Int) < (s.size : Int) := by omega
        have el : s.data.toList.length = s.size := by simp
        have HE : Hid (domB s.data.toList = []) := Lib.hid (by unfold domB domOk; rw [el, decide_eq_false h253]; rfl)
        clear el
        go_wp2_with fail
        refine (HSP.out).mono ?_
        rintro e w2 ⟨rfl, rfl⟩
        have HR : Hid (OwnC w2 (w.heap.size + 1) u5 (domsB n (L.take (k + 1)))) := Lib.hid (by rw [HS.out, HE.out, List.append_nil]; exact HOS.out)
        go_wp2_with fail
        go_roundw
        case rel => exact ⟨k + 1, by omega, by go_num, HR.out, HWS.out⟩
        case measure => simp [intOf]; omega
    · obtain rfl : k = m := by omega
      have e : L.take k = L := List.take_of_length_le (by rw [HM.out]; exact Nat.le_refl _)
      rw [e] at hO
      obtain ⟨A9, c9, k9, hv9, g2, g3, g4, g5⟩ := hO
      obtain ⟨q, hq⟩ : ∃ q, (domsB n L).length = q := ⟨_, rfl⟩
      have HLL := Lib.hid hq
      rw [hq] at hv9 g2 g3 g5
      subst hv9
      have hq := (hW.block _ (Nat.lt_succ_self _)).trans HQ1.out
      have d0 := cell_blk hq 0
      have d1 := cell_blk hq 1
      have f0 := frozen_blk hq 0
      have f1 := frozen_blk hq 1
      simp only [List.getElem?_toArray, List.getElem?_cons_zero, List.getElem?_cons_succ] at d0 d1
      have HO5 := Lib.hid (own_mono g5 (Nat.le_succ _))
      have HB5 := Lib.hid (HB1.out.trans (hW.mono (by omega)))
      have HQ := Lib.hid hq
      have hle : q ≤ k9 := by omega
      clear g2 g5 hq hW HOC
      go_wp2_with fail
      refine (clip56 _ _ _ g3 _).mono ?_
      rintro e w3 ⟨rfl, rfl⟩
      go_wp2_with fail
      obtain ⟨g0, g1⟩ := end_cells (v0 := .int .u8 (31 : Int)) (v1 := .slice A9 q q) HQ.out
      refine bodyPost_ret (v := .agg #[.int .u8 (31 : Int), .slice A9 q q]) ?_ rfl ?_
      · simp [results, Tryz.results25, go_sem, g0, g1]
        try rfl
      · exact made_end HO5.out HLL.out (Nat.le_refl _) hle HQ.out (Nat.le_refl _) HB5.out
end Go.Proofs.YtfolamkjlgpgmaaGreatDoor
