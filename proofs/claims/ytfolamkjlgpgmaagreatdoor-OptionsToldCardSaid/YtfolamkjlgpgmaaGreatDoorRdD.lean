/- Several texts in one: RdN, RdS, RdD. No condition beyond those that each part names. -/
import Derived.Test.YtfolamkjlgpgmaaGreatDoorDomT
import Derived.Test.YtfolamkjlgpgmaaGreatDoorParts
import Derived.Test.YtfolamkjlgpgmaaGreatDoorRdP
import Derived.Test.YtfolamkjlgpgmaaGreatDoorTellV
/- Names within an option's data, read as the document reads them: what its tests amount to. No program in sight. No condition. -/
namespace Go.Proofs.YtfolamkjlgpgmaaGreatDoor
open Go.RowKit
set_option linter.unusedVariables false
set_option linter.unusedSimpArgs false
theorem no46 {p : List UInt8} (h : p.all inS = true) : (46 : UInt8) ∉ p := fun h2 => by
  have := List.all_eq_true.1 h 46 h2
  cases this
theorem spl_join : ∀ s : List UInt8, Lib.join (spl 46 s) [46] = s
  | [] => by simp [spl, Lib.join_one]
  | x :: s => by
    have ih := spl_join s
    cases h : spl 46 s with
    | nil => exact absurd h (spl_ne 46 s)
    | cons q qs =>
      rw [h, Lib.join_cons] at ih
      unfold spl
      split
      · rename_i e
        subst e
        rw [h, Lib.join_cons]
        have : Lib.joinTail [46] (q :: qs) = 46 :: (q ++ Lib.joinTail [46] qs) := by simp [Lib.joinTail]
        rw [this, ih]; rfl
      · rw [h]
        show Lib.join ((x :: q) :: qs) [46] = _
        rw [Lib.join_cons, List.cons_append, ih]
theorem part_pos {p : List UInt8} (h : partOk p = true) : 0 < p.length ∧ p.length ≤ 63 := by
  unfold partOk at h
  simp only [Bool.and_eq_true, decide_eq_true_eq] at h
  refine ⟨?_, h.1.2⟩
  cases p with
  | nil => have := h.1.1; cases this
  | cons y ys => simp
theorem full_gt : ∀ (m : List Nat) (i x : Nat), m.reverse[i]? = some x → x ≠ 0 → i < (m.dropWhile (· == 0)).length
  | [], i, x, h, _ => by simp at h
  | y :: m, i, x, h, hx => by
    rw [List.reverse_cons] at h
    rw [List.dropWhile_cons]
    rcases Nat.lt_or_ge i m.length with hi | hi
    · rw [List.getElem?_append_left (by simpa using hi)] at h
      split
      · exact full_gt m i x h hx
      · simp; omega
    · rw [List.getElem?_append_right (by simpa using hi)] at h
      have h0 : i - m.reverse.length = 0 := by have := (List.getElem?_eq_some_iff.1 h).1; simp at this ⊢; omega
      rw [h0] at h
      simp only [List.getElem?_cons_zero, Option.some.injEq] at h
      subst h
      have : (y == 0) = false := by simpa using hx
      rw [this]
      have h1 : i = m.length := by simp at h0; omega
      simp [h1]
theorem fullL_gt {l : List Nat} {i x : Nat} (h : l[i]? = some x) (hx : x ≠ 0) : i < fullL l := by
  unfold fullL
  exact full_gt l.reverse i x (by rw [List.reverse_reverse]; exact h) hx
theorem noughts_full {l : List Nat} (pos : Nat) : (l.drop pos).all (· == 0) = decide (fullL l ≤ pos) := by
  by_cases h : fullL l ≤ pos
  · rw [decide_eq_true h, List.all_eq_true]
    intro x hx
    obtain ⟨i, hi⟩ := List.mem_iff_getElem?.1 hx
    rw [List.getElem?_drop] at hi
    by_cases h0 : x = 0
    · simp [h0]
    · have := fullL_gt hi h0; omega
  · rw [decide_eq_false h, List.all_eq_false]
    -- the last one that is not nought
    have hrev : l.reverse.dropWhile (· == 0) ≠ [] := by
      intro e
      unfold fullL at h
      rw [e] at h
      exact h (Nat.zero_le _)
    obtain ⟨y, ys, hy⟩ : ∃ y ys, l.reverse.dropWhile (· == 0) = y :: ys := by
      cases e : l.reverse.dropWhile (· == 0) with
      | nil => exact absurd e hrev
      | cons y ys => exact ⟨y, ys, rfl⟩
    have hy0 : (y == 0) = false := by
      have := List.head?_dropWhile_not (p := (· == 0)) (l := l.reverse)
      rw [hy] at this
      simpa using this
    have hsplit : l.reverse = l.reverse.takeWhile (· == 0) ++ y :: ys := by rw [← hy]; exact (List.takeWhile_append_dropWhile).symm
    have hl : l = (y :: ys).reverse ++ (l.reverse.takeWhile (· == 0)).reverse := by
      have := congrArg List.reverse hsplit
      rwa [List.reverse_reverse, List.reverse_append] at this
    have hf : fullL l = ys.length + 1 := by unfold fullL; rw [hy]; rfl
    refine ⟨y, ?_, by rw [hy0]; decide⟩
    refine List.mem_iff_getElem?.2 ⟨ys.length - pos, ?_⟩
    rw [List.getElem?_drop, show pos + (ys.length - pos) = ys.length by omega, hl, List.getElem?_append_left (by simp), List.reverse_cons, List.getElem?_append_right (by simp)]
    simp
theorem join_snoc : ∀ (ps : List (List UInt8)) (q : List UInt8), ps ≠ [] → joinN (ps ++ [q]) = joinN ps ++ [46] ++ q
  | [], _, h => absurd rfl h
  | x :: r, q, _ => by
    unfold joinN
    rw [List.cons_append, Lib.join_cons, Lib.join_cons]
    simp [Lib.joinTail]
theorem join_none {ps : List (List UInt8)} (h : ∀ p ∈ ps, partOk p = true) : joinN ps = [] ↔ ps = [] := by
  cases ps with
  | nil => exact ⟨fun _ => rfl, fun _ => rfl⟩
  | cons x r =>
    refine ⟨fun e => ?_, fun e => by cases e⟩
    unfold joinN at e
    rw [Lib.join_cons] at e
    have := part_pos (h x List.mem_cons_self)
    have h0 : x = [] := (List.append_eq_nil_iff.1 e).1
    rw [h0] at this
    exact absurd this.1 (Nat.lt_irrefl _)
theorem part_in {p : List UInt8} (h : partOk p = true) : p.all inS = true := by
  unfold partOk at h
  simp only [Bool.and_eq_true] at h
  exact h.2
theorem spl_of_join : ∀ (r : List (List UInt8)) (x : List UInt8), (∀ p ∈ x :: r, partOk p = true) → spl 46 (joinN (x :: r)) = x :: r
  | [], x, h => by
    unfold joinN
    rw [Lib.join_one]
    exact spl_clean (no46 (part_in (h x List.mem_cons_self)))
  | y :: r, x, h => by
    have ih := spl_of_join r y (fun p hp => h p (List.mem_cons_of_mem _ hp))
    unfold joinN at ih ⊢
    rw [Lib.join_cons] at ih ⊢
    have e : Lib.joinTail [46] (y :: r) = 46 :: (y ++ Lib.joinTail [46] r) := by simp [Lib.joinTail]
    rw [e, spl_cut (no46 (part_in (h x List.mem_cons_self))), ih]
theorem dom_join {ps : List (List UInt8)} (h : ∀ p ∈ ps, partOk p = true) : domOk (joinN ps) = true ↔ joinN ps ≠ [] ∧ (joinN ps).length ≤ 253 := by
  cases ps with
  | nil => exact ⟨fun e => (by cases e), fun e => absurd rfl e.1⟩
  | cons x r =>
    have e := spl_of_join r x h
    unfold domOk
    rw [e]
    have ha : (x :: r).all partOk = true := List.all_eq_true.2 h
    rw [ha, Bool.and_true, decide_eq_true_eq]
    exact ⟨fun hl => ⟨fun hn => (by have := (join_none h).1 hn; cases this), hl⟩, fun h => h.2⟩
/-- one part alone is a part -/
theorem one_part {s : ByteArray} {ps : List ByteArray} (h : (domOk s.data.toList = true ∧ ps.map (·.data.toList) = spl 46 s.data.toList) ∨ (domOk s.data.toList = false ∧ ps = [])) : ps.length = 1 ↔ partOk s.data.toList = true := by
  constructor
  · intro h1
    rcases h with ⟨hd, hp⟩ | ⟨_, rfl⟩
    · have hl : (spl 46 s.data.toList).length = 1 := by rw [← hp, List.length_map, h1]
      obtain ⟨x, hx⟩ := List.length_eq_one_iff.1 hl
      have hj := spl_join s.data.toList
      rw [hx, Lib.join_one] at hj
      unfold domOk at hd
      rw [hx] at hd
      simp only [List.all_cons, List.all_nil, Bool.and_true, Bool.and_eq_true] at hd
      rw [← hj]; exact hd.2
    · cases h1
  · intro hp
    have hs := spl_clean (no46 (part_in hp))
    rcases h with ⟨_, he⟩ | ⟨hd, _⟩
    · have := congrArg List.length he
      rw [hs, List.length_map] at this
      exact this
    · unfold domOk at hd
      rw [hs] at hd
      simp only [List.all_cons, List.all_nil, Bool.and_true, hp, decide_eq_false_iff_not] at hd
      have := (part_pos hp).2
      omega
theorem no_parts {s : ByteArray} {ps : List ByteArray} (h : (domOk s.data.toList = true ∧ ps.map (·.data.toList) = spl 46 s.data.toList) ∨ (domOk s.data.toList = false ∧ ps = [])) : ps.length = 0 ↔ domOk s.data.toList = false := by
  rcases h with ⟨hd, hp⟩ | ⟨hd, rfl⟩
  · rw [hd]
    refine ⟨fun e => ?_, fun e => by cases e⟩
    have := congrArg List.length hp
    rw [List.length_map, e] at this
    exact absurd (List.eq_nil_of_length_eq_zero this.symm) (spl_ne _ _)
  · exact ⟨fun _ => hd, fun _ => rfl⟩
end Go.Proofs.YtfolamkjlgpgmaaGreatDoor

/- The document's reader of a list of servers. No condition but that the bytes are bytes. (Printed by gRdS.py.) -/
namespace Go.Proofs.YtfolamkjlgpgmaaGreatDoor
open Go.RowKit
set_option linter.unusedVariables false
set_option linter.unusedSimpArgs false
def SrvRef (w : World) (l : List Nat) (r : Bool) (e : Ending) (w' : World) : Prop :=
  Below w.heap.size w w' ∧ ((r = false ∧ e = .returned (.tuple #[.int .u32 0, .slice none 0 0, .bool false])) ∨
   (r = true ∧ ∃ A k, e = .returned (.tuple #[.int .u32 (num1 l 2 4 : Nat), .slice A (adN l) k, .bool true]) ∧ w'.ownsRow w.heap.size 32 16 (.slice A (adN l) k) (adN l) (row8 (adrsB (adrsOf l (adN l))))))
/-- behind i addresses -/
structure SI (w V : World) (l : List Nat) (i : Nat) (A : Option Addr) (cap : Nat) (W : World) : Prop where
  below : Below V.heap.size V W
  own : W.ownsRow V.heap.size 32 16 (.slice A i cap) i (row8 (adrsB (adrsOf l i)))
theorem SI.step {w V W W' : World} {l : List Nat} {i cap : Nat} {A : Option Addr} (h : SI w V l i A cap W) (hb : Below W.heap.size W W') : SI w V l i A cap W' :=
  ⟨h.below.trans (hb.mono h.below.size), own_below h.own hb⟩
theorem SI.turn {w V W W' : World} {l : List Nat} {i cap q : Nat} {A : Option Addr} {ob : Obj} (h : SI w V l i A cap W) (t : Turned q ob W W') (hq : W.heap.size ≤ q + 0) : SI w V l i A cap W' :=
  h.step (t.below (by omega))
theorem SI.more {w V W W' : World} {l : List Nat} {i cap cap' : Nat} {A A' : Option Addr} (h : SI w V l i A cap W) (hg : W.grownBy W' (Value.slice A i cap).ownBlock)
    (ho : W'.ownsRow V.heap.size 32 16 (.slice A' (i + 1) cap') (i + 1) (row8 (adrsB (adrsOf l i)) ++ row8 (adr16 (adrAt l i)))) : SI w V l (i + 1) A' cap' W' :=
  ⟨Below.grown' h.below hg h.below.size (fun q hq => (h.own.lt q hq).1), by rw [adrsOf_succ]; exact ho⟩
theorem row_adr2 {l : List Nat} {p i : Nat} (hp : p = 6 + 16 * i) (h : p + 16 ≤ l.length) : (row8 ((l.drop p).take 16)).toArray = (row8 (adr16 (adrAt l i))).toArray := by
  congr 1
  apply List.ext_getElem?
  intro j
  by_cases hj : j < 16
  · rw [adr16_get _ hj]
    unfold row8 adrAt
    rw [← hp, List.getElem?_map, List.getElem?_take_of_lt hj, List.getElem?_drop, List.getD_eq_getElem?_getD, List.getElem?_eq_getElem (show p + j < l.length by omega)]
    rfl
  · rw [List.getElem?_eq_none (by rw [row8_length, List.length_take]; omega), List.getElem?_eq_none (by rw [row8_length]; simp [adr16]; omega)]
set_option maxRecDepth 100000 in
set_option maxHeartbeats 4000000 in
theorem servers13 {kd : Nat} {A : Option Addr} {c : Nat} {l : List Nat} (w : World) (h : Bs w w.heap.size A c l) (hl : l.length ≤ 1000000000) (h256 : ∀ x ∈ l, x < 256) {r : Bool} (hr : isSrv kd l = r) :
    Calls Tryz.prog 13 #[.agg #[.int .u8 (kd : Int), .slice A l.length c]] w (SrvRef w l r) := by
  obtain ⟨i51, hi, hz0, hz1, hz2⟩ := info_parts info51
  obtain ⟨V, hV⟩ : ∃ V, V = w.alloc (.cells #[.int .u8 (kd : Int), .slice A l.length c] 24) := ⟨_, rfl⟩
  have hbV : Below w.heap.size w V := by rw [hV]; exact (Below.refl _ _).alloc (Nat.le_refl _) _
  have s1 : V.heap.size = w.heap.size + 1 := by rw [hV]; simp
  have b1 : V.heap[w.heap.size]? = some (.cells #[.int .u8 (kd : Int), .slice A l.length c] 24 (0, 0)) := by rw [hV, heap_alloc_new]
  have HBV := Lib.hid hbV; have HB1 := Lib.hid b1; have HS1 := Lib.hid s1
  have HR := Lib.hid (h.rd.below hbV)
  have hcap := h.cap
  unfold isSrv at hr
  obtain ⟨n, hn⟩ : ∃ n, l.length = n := ⟨_, rfl⟩
  rw [hn] at hV HB1 hl hcap hr ⊢
  have HN := Lib.hid hn; have H256 := Lib.hid h256
  clear h hbV b1 s1 hn h256
  have c0 := cell_blk HB1.out 0
  have c1 := cell_blk HB1.out 1
  simp only [List.getElem?_toArray, List.getElem?_cons_zero, List.getElem?_cons_succ] at c0 c1
  by_cases hok : kd = 25 ∧ 22 ≤ n ∧ n % 16 = 6
  · obtain ⟨hk, h22, h16⟩ := hok
    have hr' : r = true := by rw [← hr, hk, decide_eq_true ⟨h22, h16⟩]; rfl
    subst hr'
    have t1 : ((kd : Int) != 25) = false := by rw [bne_eq_false_iff_eq]; omega
    have t2 : ¬ (n : Int) < 22 := by omega
    have t3 : (((n : Int) - 6) % 16 != 0) = false := by rw [bne_eq_false_iff_eq]; omega
    have hne : l ≠ [] := by rintro rfl; have := HN.out; simp at this; omega
    obtain ⟨b, o, rfl, hb, hc⟩ := HR.out hne
    clear hk hr hc
    have I0 : Hid (SI w V l 0 none 0 V) := Lib.hid ⟨Below.refl _ _, World.ownsRow_nil _ _ _ _⟩
    have HE : Hid (adN l * 16 + 6 = n) := Lib.hid (by unfold adN; rw [HN.out]; omega)
    have HN2 : Hid (∀ W, Below V.heap.size V W → Calls Tryz.prog 36 #[.slice (some ⟨b, o + 2, none⟩) (n - 2) (c - 2)] W fun e w' => e = .returned (.int .u32 (num1 l 2 4 : Nat)) ∧ W = w') := Lib.hid (fun W hW => by
      have hr := (slice_drop (HR.out.below (hW.mono HBV.out.size)) (k := 2) (by rw [HN.out]; omega))
      have := num36 (c := c - 2) W hr (by rw [List.length_drop, HN.out]; omega) (fun x hx => H256.out x (List.mem_of_mem_drop hx))
      rwa [List.length_drop, HN.out] at this)
    go_enter Tryz.func13, Tryz.ntmps13
    go_upto_region 1 with (fail)
    rw [← hV]
    clear hV
    go_wp2_with fail
    go_loopw [5, 6] (fun v5 v6 wr => ∃ i A cap, i ≤ adN l ∧ v5 = .slice A i cap ∧ v6 = .int .i64 ((6 + 16 * i : Nat) : Int) ∧ SI w V l i A cap wr) (fun _ v6 _ => n + 16 - (intOf v6).toNat)
    case atStart => exact ⟨0, none, 0, Nat.zero_le _, rfl, rfl, I0.out⟩
    case round =>
      clear I0
      obtain ⟨i, A, cap, hi9, rfl, rfl, I⟩ := hrel
      have HI := Lib.hid I
      have c2 := (I.below.cell (lt_of_cell c1)).trans c1
      clear I
      have HE' := HE.out
      by_cases hlt : i < adN l
      · have tl : ((6 + 16 * i : Nat) : Int) < n := by omega
        obtain ⟨p, hp⟩ : ∃ p, p = 6 + 16 * i := ⟨_, rfl⟩
        rw [← hp] at tl ⊢
        have HP := Lib.hid hp
        obtain ⟨W, hW⟩ : ∃ W, W = wr.alloc (.cells #[.int .u8 0, .int .u8 0, .int .u8 0, .int .u8 0, .int .u8 0, .int .u8 0, .int .u8 0, .int .u8 0, .int .u8 0, .int .u8 0, .int .u8 0, .int .u8 0, .int .u8 0, .int .u8 0, .int .u8 0, .int .u8 0] 32) := ⟨_, rfl⟩
        obtain ⟨q7, hq7⟩ : ∃ q, q = wr.heap.size := ⟨_, rfl⟩
        have hal : Below wr.heap.size wr W := by rw [hW]; exact (Below.refl _ _).alloc (Nat.le_refl _) _
        have h7 : W.heap[q7]? = some (.cells #[.int .u8 0, .int .u8 0, .int .u8 0, .int .u8 0, .int .u8 0, .int .u8 0, .int .u8 0, .int .u8 0, .int .u8 0, .int .u8 0, .int .u8 0, .int .u8 0, .int .u8 0, .int .u8 0, .int .u8 0, .int .u8 0] 32 (0, 0)) := by rw [hW, hq7, heap_alloc_new]
        have HI2 := Lib.hid (HI.out.step hal)
        have HS7 : Hid (W.heap.size = q7 + 1) := Lib.hid (by rw [hW, hq7]; simp)
        have H7 := Lib.hid h7
        have HQ7 := Lib.hid hq7
        have HVQ : Hid (V.heap.size ≤ q7) := Lib.hid (by rw [hq7]; exact HI.out.below.size)
        have hpb : p + 16 ≤ n := by omega
        have HPB := Lib.hid hpb
        have ncp : ¬ c = p := by omega
        have npn : ¬ n < p := by omega
        have hr7 := slice_drop (HR.out.below (HI2.out.below.mono HBV.out.size)) (k := p) (by rw [HN.out]; omega)
        have hcp := copy_all (c := c - p) (m := 16) (w := W.drew) H7.out rfl (by rw [List.length_drop, HN.out]; omega) hr7 (by decide)
        rw [List.length_drop, HN.out, row_adr2 hp (by rw [HN.out]; exact hpb)] at hcp
        obtain ⟨W5, hW5⟩ : ∃ W5, W5 = W.drew.setRow q7 (row8 (adr16 (adrAt l i))).toArray := ⟨_, rfl⟩
        have t5 := Turned.setRow (w := W.drew) H7.out (row8 (adr16 (adrAt l i))).toArray
        rw [← hW5] at t5
        have h57 := t5.get (lt_of_blk H7.out)
        obtain ⟨a, ha⟩ : ∃ a, a = adrAt l i := ⟨_, rfl⟩
        rw [← ha] at h57 hcp hW5
        have HA := Lib.hid ha
        have h57b : W5.heap[q7]? = some (.cells #[.int .u8 (a 0 : Int), .int .u8 (a 1 : Int), .int .u8 (a 2 : Int), .int .u8 (a 3 : Int), .int .u8 (a 4 : Int), .int .u8 (a 5 : Int), .int .u8 (a 6 : Int), .int .u8 (a 7 : Int), .int .u8 (a 8 : Int), .int .u8 (a 9 : Int), .int .u8 (a 10 : Int), .int .u8 (a 11 : Int), .int .u8 (a 12 : Int), .int .u8 (a 13 : Int), .int .u8 (a 14 : Int), .int .u8 (a 15 : Int)] 32 (0, 0)) := h57
        have H57 := Lib.hid h57b
        have hI5 : SI w V l i A cap W5 := HI.out.step (hal.drew.trans (t5.below (by rw [hq7]; exact Nat.le_refl _)))
        have HI5 := Lib.hid hI5
        have HCP := Lib.hid hcp
        clear hal h7 hpb hr7 hcp t5 h57 h57b hI5 hq7 hp HE' ha
        go_upto_region 8 with (fail)
        rw [← hW, ← HQ7.out]
        clear hW
        have hS : Below V.heap.size V W.drew := HI2.out.below.drew
        refine wp_region_held_drew (S := fun W => Below V.heap.size V W) (by kernel_rfl) hS ?_
        clear hS
        intro HS
        refine wpAnyH_take (i := 0) (v := ?_) rfl (by kernel_rfl) (by kernel_rfl) (by kernel_rfl) (fun _ _ _ h => h) (Or.inl ⟨by go_simp, ?hy⟩) HS ?_
        case hy => intro W hW; go_simp; (try with_reducible rfl)
        try simp only [List.getElem_toArray, List.getElem_cons_zero, List.getElem_cons_succ, Act.put, List.setIfInBounds_toArray, List.set_cons_zero, List.set_cons_succ]
        refine wpAnyH_take (i := 1) (v := ?_) rfl (by kernel_rfl) (by kernel_rfl) (by kernel_rfl) (fun _ _ _ h => h) (Or.inl ⟨by go_simp, ?hy⟩) HS ?_
        case hy => intro W hW; go_simp; (try with_reducible rfl)
        try simp only [List.getElem_toArray, List.getElem_cons_zero, List.getElem_cons_succ, Act.put, List.setIfInBounds_toArray, List.set_cons_zero, List.set_cons_succ]
        refine wpAnyH_take (i := 2) (v := (.slice (some ⟨b, o, none⟩) n c)) rfl (by kernel_rfl) (by kernel_rfl) (by kernel_rfl) (fun _ _ _ h => h) (Or.inl ⟨by go_simp, fun W hW => by have d := (hW.cell (lt_of_cell c1)).trans c1; go_simp⟩) HS ?_
        try simp only [List.getElem_toArray, List.getElem_cons_zero, List.getElem_cons_succ, Act.put, List.setIfInBounds_toArray, List.set_cons_zero, List.set_cons_succ]
        refine wpAnyH_take (i := 3) (v := ?_) rfl (by kernel_rfl) (by kernel_rfl) (by kernel_rfl) (fun _ _ _ h => h) (Or.inl ⟨by go_simp, ?hy⟩) HS ?_
        case hy => intro W hW; go_simp; (try with_reducible rfl)
        try simp only [List.getElem_toArray, List.getElem_cons_zero, List.getElem_cons_succ, Act.put, List.setIfInBounds_toArray, List.set_cons_zero, List.set_cons_succ]
        refine wpAnyH_take (i := 4) (v := (.slice (some ⟨b, o + p, none⟩) (n - p) (c - p))) rfl (by kernel_rfl) (by kernel_rfl) (by kernel_rfl) (fun _ _ _ h => h) (Or.inl ⟨by go_simp, fun W hW => by go_simp⟩) HS ?_
        try simp only [List.getElem_toArray, List.getElem_cons_zero, List.getElem_cons_succ, Act.put, List.setIfInBounds_toArray, List.set_cons_zero, List.set_cons_succ]
        refine wpAnyH_ready (rs := [5]) (by kernel_rfl) (by simp) ?_
        refine AllReadyH.cons rfl (fun K hK => ?_) AllReadyH.nil
        rw [if_pos (by kernel_rfl)]
        simp only [List.getElem_toArray, List.getElem_cons_zero, List.getElem_cons_succ]
        refine Lib.wp_copy_run _ _ _ 22 22 rfl _ _ rfl rfl HCP.out ?_
        rw [← hW5]
        refine hK.out _ _ HI5.out.below (fun HS => ?_)
        clear hK
        try simp only [List.getElem_toArray, List.getElem_cons_zero, List.getElem_cons_succ, Act.put, List.setIfInBounds_toArray, List.set_cons_zero, List.set_cons_succ]
        refine wpAnyH_done (by kernel_rfl) ?_ _
        clear hW5 HCP HS
        have HSC := Lib.hid (show (Tryz.prog.info? 32).map (·.size) = some 16 by kernel_rfl)
        have hal : Below W5.heap.size W5 (W5.alloc (.cells #[.int .u8 (a 0 : Int), .int .u8 (a 1 : Int), .int .u8 (a 2 : Int), .int .u8 (a 3 : Int), .int .u8 (a 4 : Int), .int .u8 (a 5 : Int), .int .u8 (a 6 : Int), .int .u8 (a 7 : Int), .int .u8 (a 8 : Int), .int .u8 (a 9 : Int), .int .u8 (a 10 : Int), .int .u8 (a 11 : Int), .int .u8 (a 12 : Int), .int .u8 (a 13 : Int), .int .u8 (a 14 : Int), .int .u8 (a 15 : Int)] 32)) := (Below.refl _ _).alloc (Nat.le_refl _) _
        have HI6 := Lib.hid (HI5.out.step hal)
        have HNS : Hid (∀ j u, (row8 (adr16 a))[j]? = some u → (W5.alloc (.cells #[.int .u8 (a 0 : Int), .int .u8 (a 1 : Int), .int .u8 (a 2 : Int), .int .u8 (a 3 : Int), .int .u8 (a 4 : Int), .int .u8 (a 5 : Int), .int .u8 (a 6 : Int), .int .u8 (a 7 : Int), .int .u8 (a 8 : Int), .int .u8 (a 9 : Int), .int .u8 (a 10 : Int), .int .u8 (a 11 : Int), .int .u8 (a 12 : Int), .int .u8 (a 13 : Int), .int .u8 (a 14 : Int), .int .u8 (a 15 : Int)] 32)).cell? ((⟨W5.heap.size, 0, none⟩ : Addr).add j) = some u) := Lib.hid (by
          intro j u hj
          rw [Addr.add_mid, Nat.zero_add, cell_blk (heap_alloc_new _ _), List.getElem?_toArray]
          exact hj)
        have him : i + 1 ≤ maxLen := by have := HE.out; unfold maxLen; omega
        have hi16 : i * 16 ≤ 1000000000 := by have := HE.out; omega
        have hbs : V.heap.size ≤ (W5.alloc (.cells #[.int .u8 (a 0 : Int), .int .u8 (a 1 : Int), .int .u8 (a 2 : Int), .int .u8 (a 3 : Int), .int .u8 (a 4 : Int), .int .u8 (a 5 : Int), .int .u8 (a 6 : Int), .int .u8 (a 7 : Int), .int .u8 (a 8 : Int), .int .u8 (a 9 : Int), .int .u8 (a 10 : Int), .int .u8 (a 11 : Int), .int .u8 (a 12 : Int), .int .u8 (a 13 : Int), .int .u8 (a 14 : Int), .int .u8 (a 15 : Int)] 32)).heap.size := HI6.out.below.size
        have HMO : Hid (∀ A2 c2 w2, (W5.alloc (.cells #[.int .u8 (a 0 : Int), .int .u8 (a 1 : Int), .int .u8 (a 2 : Int), .int .u8 (a 3 : Int), .int .u8 (a 4 : Int), .int .u8 (a 5 : Int), .int .u8 (a 6 : Int), .int .u8 (a 7 : Int), .int .u8 (a 8 : Int), .int .u8 (a 9 : Int), .int .u8 (a 10 : Int), .int .u8 (a 11 : Int), .int .u8 (a 12 : Int), .int .u8 (a 13 : Int), .int .u8 (a 14 : Int), .int .u8 (a 15 : Int)] 32)).grownBy w2 (Value.slice A i cap).ownBlock → w2.ownsRow V.heap.size 32 16 (.slice A2 (i + 1) c2) (i + 1) (row8 (adrsB (adrsOf l i)) ++ row8 (adr16 a)) → SI w V l (i + 1) A2 c2 w2) := Lib.hid (fun A2 c2 w2 hg ho => HI6.out.more hg (by rw [← HA.out]; exact ho))
        clear hal
        go_wp2_with (first | (refine wpList_load_row rfl 32 _ rfl q7 rfl 32 _ (0, 0) _ H57.out Tryz.underlying32 rfl HSC.out ?_) | (at_builtin; refine wpList_append_own _ rfl _ _ 42 rfl V.heap.size 32 i51 (.agg #[.int .u8 0, .int .u8 0, .int .u8 0, .int .u8 0, .int .u8 0, .int .u8 0, .int .u8 0, .int .u8 0, .int .u8 0, .int .u8 0, .int .u8 0, .int .u8 0, .int .u8 0, .int .u8 0, .int .u8 0, .int .u8 0]) 16 16 Tryz.underlying42 hi hz0 hz1 hz2 rfl (by decide) _ i _ rfl HI6.out.own ⟨W5.heap.size, 0, none⟩ 1 1 (row8 (adr16 a)) rfl rfl HNS.out (row8_one _) him (by omega) hbs ?_))
        intro v5 w5 ho5 hg5 _
        obtain ⟨A2, c2, rfl, _⟩ := own_slice2 ho5
        have HM := Lib.hid (HMO.out A2 c2 w5 hg5 ho5)
        clear ho5 hg5
        have pw : IntKind.i64.wrap ((p : Int) + 16) = (p : Int) + 16 := by rw [show (p : Int) + 16 = ((p + 16 : Nat) : Int) by omega]; exact i64_small (by have := HPB.out; omega)
        go_wp2_with fail
        go_roundw
        case rel => exact ⟨i + 1, A2, c2, by omega, rfl, by rw [show 6 + 16 * (i + 1) = p + 16 by have := HP.out; omega]; rfl, HM.out⟩
        case measure => have := HP.out; simp [intOf]; omega
      · have hin : i = adN l := by omega
        have tl : ¬ ((6 + 16 * i : Nat) : Int) < n := by omega
        have HF := Lib.hid (HN2.out wr HI.out.below)
        have ncp : ¬ c = 2 := by omega
        go_wp2_with fail
        refine (HF.out).mono ?_
        rintro e w3 ⟨rfl, rfl⟩
        go_wp2_with fail
        subst hin
        refine bodyPost_ret (results_tmp3 Tryz.results13 _ _) rfl ⟨HBV.out.trans (HI.out.below.mono HBV.out.size), .inr ⟨rfl, A, cap, rfl, own_mono HI.out.own HBV.out.size⟩⟩
  · have hr' : r = false := by
      rw [← hr]
      by_cases k1 : kd = 25
      · rw [decide_eq_false (fun h => hok ⟨k1, h⟩), Bool.and_false]
      · rw [show (kd == 25) = false by simpa using k1]; rfl
    have key : ((kd : Int) != 25) = true ∨ ((kd : Int) != 25) = false ∧ ((n : Int) < 22 ∨ ¬ (n : Int) < 22 ∧ (((n : Int) - 6) % 16 != 0) = true) := by
      by_cases k1 : kd = 25
      · right
        refine ⟨by rw [bne_eq_false_iff_eq]; omega, ?_⟩
        by_cases k2 : n < 22
        · left; omega
        · right
          refine ⟨by omega, ?_⟩
          rw [bne_iff_ne]
          intro e
          exact hok ⟨k1, by omega, by omega⟩
      · left; rw [bne_iff_ne]; omega
    clear hr hok
    subst hr'
    have HV1 : Hid (Below w.heap.size w V) := HBV
    go_enter Tryz.func13, Tryz.ntmps13
    go_upto_region 1 with (fail)
    rw [← hV]
    clear hV
    rcases key with t1 | ⟨t1, t3 | ⟨t3, t4⟩⟩
    all_goals
      go_wp2_with fail
      refine bodyPost_ret (results_tmp3 Tryz.results13 _ _) rfl ⟨HV1.out, .inl ⟨rfl, rfl⟩⟩
end Go.Proofs.YtfolamkjlgpgmaaGreatDoor


/- The document's reader of a list of names. No condition but that the bytes are bytes. (Printed by gRdD.py.) -/
namespace Go.Proofs.YtfolamkjlgpgmaaGreatDoor
open Go.RowKit
set_option linter.unusedVariables false
set_option linter.unusedSimpArgs false
def NamesRef (w : World) (kd : Nat) (l : List Nat) (e : Ending) (w' : World) : Prop :=
  Below w.heap.size w w' ∧ ((isDom kd l = none ∧ e = .returned (.tuple #[.int .u32 0, .slice none 0 0, .bool false])) ∨
   (∃ acc A k, isDom kd l = some acc ∧ e = .returned (.tuple #[.int .u32 (num1 l 2 4 : Nat), .slice A acc.length k, .bool true]) ∧ w'.ownsRow w.heap.size 9 1 (.slice A acc.length k) acc.length (strs acc)))
/-- behind some names -/
structure DI (V : World) (acc : List (List UInt8)) (A : Option Addr) (cap : Nat) (W : World) : Prop where
  below : Below V.heap.size V W
  own : W.ownsRow V.heap.size 9 1 (.slice A acc.length cap) acc.length (strs acc)
theorem DI.step {V W W' : World} {acc : List (List UInt8)} {A : Option Addr} {cap : Nat} (h : DI V acc A cap W) (hb : Below W.heap.size W W') : DI V acc A cap W' :=
  ⟨h.below.trans (hb.mono h.below.size), own_below h.own hb⟩
theorem DI.more {V W W' : World} {acc : List (List UInt8)} {s : List UInt8} {A A' : Option Addr} {cap cap' : Nat} (h : DI V acc A cap W) (hg : W.grownBy W' (Value.slice A acc.length cap).ownBlock)
    (ho : W'.ownsRow V.heap.size 9 1 (.slice A' (acc.length + 1) cap') (acc.length + 1) (strs acc ++ [.string ⟨s.toArray⟩])) : DI V (acc ++ [s]) A' cap' W' := by
  refine ⟨Below.grown' h.below hg h.below.size (fun q hq => (h.own.lt q hq).1), ?_⟩
  rw [List.length_append, List.length_singleton]
  have : strs (acc ++ [s]) = strs acc ++ [.string ⟨s.toArray⟩] := by simp [strs]
  rw [this]; exact ho
/-- the bytes that are left -/
def AtB (b o n c pos : Nat) (v : Value) : Prop := ∃ A, v = .slice A (n - pos) (c - pos) ∧ (pos < n → A = some ⟨b, o + pos, none⟩)
theorem str_app (a b : List UInt8) : ((⟨a.toArray⟩ : ByteArray) ++ ⟨b.toArray⟩) = ⟨(a ++ b).toArray⟩ := by
  apply ByteArray.ext
  simp
def lenV : Value → Nat | .slice _ m _ => m | _ => 0
set_option maxRecDepth 100000 in
set_option maxHeartbeats 4000000 in
theorem domains15 {kd : Nat} {A : Option Addr} {c : Nat} {l : List Nat} (w : World) (h : Bs w w.heap.size A c l) (hl : l.length ≤ 1000000) (h256 : ∀ x ∈ l, x < 256) :
    Calls Tryz.prog 15 #[.agg #[.int .u8 (kd : Int), .slice A l.length c]] w (NamesRef w kd l) := by
  obtain ⟨i9, hi, hz0, hz1, hz2⟩ := info_parts info9
  obtain ⟨V, hV⟩ : ∃ V, V = w.alloc (.cells #[.int .u8 (kd : Int), .slice A l.length c] 24) := ⟨_, rfl⟩
  have hbV : Below w.heap.size w V := by rw [hV]; exact (Below.refl _ _).alloc (Nat.le_refl _) _
  have s1 : V.heap.size = w.heap.size + 1 := by rw [hV]; simp
  have b1 : V.heap[w.heap.size]? = some (.cells #[.int .u8 (kd : Int), .slice A l.length c] 24 (0, 0)) := by rw [hV, heap_alloc_new]
  have HBV := Lib.hid hbV; have HB1 := Lib.hid b1; have HS1 := Lib.hid s1
  have HB := Lib.hid (h.below hbV)
  have HR := Lib.hid (h.rd.below hbV)
  have hcap := h.cap
  obtain ⟨n, hn⟩ : ∃ n, l.length = n := ⟨_, rfl⟩
  rw [hn] at hV HB1 hl hcap ⊢
  have HN := Lib.hid hn; have H256 := Lib.hid h256
  clear h hbV b1 s1 hn h256
  have c0 := cell_blk HB1.out 0
  have c1 := cell_blk HB1.out 1
  simp only [List.getElem?_toArray, List.getElem?_cons_zero, List.getElem?_cons_succ] at c0 c1
  by_cases hok : kd = 31 ∧ 6 ≤ n
  · obtain ⟨hk, h6⟩ := hok
    have t1 : ((kd : Int) != 31) = false := by rw [bne_eq_false_iff_eq]; omega
    have t2 : ¬ (n : Int) < 6 := by omega
    have hne : l ≠ [] := by rintro rfl; have := HN.out; simp at this; omega
    obtain ⟨b, o, rfl, hb, hc⟩ := HR.out hne
    have HK := Lib.hid hk; have H6 := Lib.hid h6
    have hfl : Hid (fullL l ≤ l.length) := Lib.hid (fullL_le l)
    have I0 : Hid (DI V [] none 0 V) := Lib.hid ⟨Below.refl _ _, World.ownsRow_nil _ _ _ _⟩
    have HNUM : Hid (∀ W, Below V.heap.size V W → Calls Tryz.prog 36 #[.slice (some ⟨b, o + 2, none⟩) (n - 2) (c - 2)] W fun e w' => e = .returned (.int .u32 (num1 l 2 4 : Nat)) ∧ W = w') := Lib.hid (fun W hW => by
      have hr := (slice_drop (HR.out.below (hW.mono HBV.out.size)) (k := 2) (by rw [HN.out]; omega))
      have := num36 (c := c - 2) W hr (by rw [List.length_drop, HN.out]; omega) (fun x hx => H256.out x (List.mem_of_mem_drop hx))
      rwa [List.length_drop, HN.out] at this)
    have HNO : Hid (∀ pos A W, Below V.heap.size V W → 6 ≤ pos → pos ≤ n → (pos < n → A = some ⟨b, o + pos, none⟩) → Calls Tryz.prog 51 #[.slice A (n - pos) (c - pos)] W fun e w' => e = .returned (.bool (decide (fullL l ≤ pos))) ∧ W = w') := Lib.hid (fun pos A W hW _ hp hA => by
      have hr : RdL W w.heap.size A (l.drop pos) := by
        by_cases hlt : pos < n
        · rw [hA hlt]
          exact slice_drop (HR.out.below (hW.mono HBV.out.size)) (k := pos) (by rw [HN.out]; omega)
        · rw [List.drop_of_length_le (by rw [HN.out]; omega)]; exact RdL.nil
      have := noughts51 (c := c - pos) W hr (by rw [List.length_drop, HN.out]; omega)
      rw [noughts_full] at this
      rwa [List.length_drop, HN.out] at this)
    have HA6 : Hid (∃ A6, (if c = 6 then some ⟨b, o, none⟩ else some ⟨b, o + 6, none⟩ : Option Addr) = A6 ∧ (6 < n → A6 = some ⟨b, o + 6, none⟩)) := Lib.hid ⟨_, rfl, fun h => if_neg (by omega)⟩
    clear hk h6 hc
    go_enter Tryz.func15, Tryz.ntmps15
    go_upto_region 1 with (fail)
    rw [← hV]
    clear hV
    obtain ⟨A6, hA6, hA6b⟩ := HA6.out
    go_upto_region 4 with (fail)
    go_cut [0, 6] (fun v0 v wx => v0 = .agg #[.int .u8 (kd : Int), .slice (some ⟨b, o, none⟩) n c] ∧ v = .slice A6 (n - 6) (c - 6) ∧ wx = V)
    case first =>
      by_cases hc6 : c = 6
      · rw [if_pos hc6] at hA6
        subst hA6
        go_wp2_with fail
        go_meet
        case rel => exact ⟨by rw [hc6], by rw [hc6], rfl⟩
      · rw [if_neg hc6] at hA6
        subst hA6
        go_wp2_with fail
        go_meet
        case rel => exact ⟨rfl, rfl, rfl⟩
    case rest =>
      obtain ⟨rfl, rfl, rfl⟩ := hcut
      have HAB := Lib.hid hA6b
      clear hA6 hA6b HA6
      go_wp2_with fail
      go_loopw [5, 6] (fun v5 v6 wr => ∃ acc A5 cap pos A, 6 ≤ pos ∧ pos ≤ n ∧ v5 = .slice A5 (acc : List (List UInt8)).length cap ∧ v6 = .slice A (n - pos) (c - pos) ∧ (pos < n → A = some ⟨b, o + pos, none⟩) ∧ domG l (fullL l) 6 [] = domG l (fullL l) pos acc ∧ acc.length ≤ pos ∧ DI wc acc A5 cap wr) (fun _ v6 _ => lenV v6)
      case atStart => exact ⟨[], none, 0, 6, A6, Nat.le_refl _, H6.out, rfl, rfl, HAB.out, rfl, Nat.zero_le _, I0.out⟩
      case round =>
        clear I0 HAB
        obtain ⟨acc, A5, cap, pos, A, hp6, hpn, rfl, rfl, hA, hD, hal, I⟩ := hrel
        have HI := Lib.hid I; have HD := Lib.hid hD; have HA := Lib.hid hA
        have HC := Lib.hid (HNO.out pos A wr I.below hp6 hpn hA)
        have c2 := (I.below.cell (lt_of_cell c1)).trans c1
        clear I hD hA
        go_wp2_with fail
        refine (HC.out).mono ?_
        rintro e w3 ⟨rfl, rfl⟩
        obtain ⟨w3, hw3⟩ : ∃ w3, w3 = wr := ⟨_, rfl⟩
        subst hw3
        clear HC
        by_cases hf : fullL l ≤ pos
        · have df : decide (fullL l ≤ pos) = true := decide_eq_true hf
          have hdg : domG l (fullL l) 6 [] = some acc := by rw [HD.out]; exact domG_done hfl.out (by omega)
          have HDG := Lib.hid hdg
          clear hf hdg
          by_cases h0 : acc = []
          · subst h0
            have tl : (((0 : Nat) : Int) == 0) = true := by decide
            have HNIL := Lib.hid (isDom_nil (kd := kd) HDG.out)
            go_wp2_with fail
            refine bodyPost_ret (results_tmp3 Tryz.results15 _ _) rfl ⟨HBV.out.trans (HI.out.below.mono HBV.out.size), .inl ⟨HNIL.out, rfl⟩⟩
          · have hpos : 0 < acc.length := List.length_pos_iff.2 h0
            have HSOME := Lib.hid (isDom_some (by rw [HN.out]; exact H6.out) HK.out HDG.out h0)
            obtain ⟨m, hm⟩ : ∃ m, m = acc.length := ⟨_, rfl⟩
            have tl : ((m : Int) == 0) = false := by rw [beq_eq_false_iff_ne]; omega
            have ncp : ¬ c = 2 := by have := H6.out; omega
            have ncn : ¬ n < 2 := by have := H6.out; omega
            have HF := Lib.hid (HNUM.out _ HI.out.below)
            have HM := Lib.hid hm
            rw [← hm]
            clear h0 hpos hm
            go_wp2_with fail
            refine (HF.out).mono ?_
            rintro e w4 ⟨rfl, rfl⟩
            go_wp2_with fail
            refine bodyPost_ret (results_tmp3 Tryz.results15 _ _) rfl ⟨HBV.out.trans (HI.out.below.mono HBV.out.size), .inr ⟨acc, A5, cap, HSOME.out, by rw [← HM.out]; rfl, own_mono HI.out.own HBV.out.size⟩⟩
        · have df : decide (fullL l ≤ pos) = false := decide_eq_false hf
          have HF := Lib.hid hf
          clear hf
          go_wp2_with fail
          obtain ⟨ac, hac⟩ : ∃ ac, ac = acc.length := ⟨_, rfl⟩
          have HAC := Lib.hid hac
          rw [← hac]
          clear hac
          go_loopw [6, 7] (fun v6 v7 wx => ∃ q A' ps, pos ≤ q ∧ q ≤ n ∧ v6 = .slice A' (n - q) (c - q) ∧ (q < n → A' = some ⟨b, o + q, none⟩) ∧ v7 = .string ⟨(joinN ps).toArray⟩ ∧ (∀ p ∈ ps, partOk p = true) ∧ nameG l pos [] = nameG l q ps ∧ ((ps : List (List UInt8)).map (fun s => s.length + 1)).sum ≤ q ∧ DI wc acc A5 cap wx) (fun v6 _ _ => lenV v6)
          case atStart => exact ⟨pos, A, [], Nat.le_refl _, hpn, rfl, HA.out, rfl, by simp, rfl, Nat.zero_le _, HI.out⟩
          case round =>
            clear HI HA c2
            obtain ⟨q, A', ps, hpq, hqn, rfl, hA', rfl, hps, hG, hsum, I⟩ := hrel
            have HI := Lib.hid I; have HG := Lib.hid hG; have HPS := Lib.hid hps; have HSUM := Lib.hid hsum; have HA := Lib.hid hA'
            have c2 := (I.below.cell (lt_of_cell c1)).trans c1
            clear I hG hps hsum hA'
            obtain ⟨s, hs⟩ : ∃ s, s = joinN ps := ⟨_, rfl⟩
            have HSS := Lib.hid hs
            rw [← hs]
            clear hs
            have HNONE : Hid (nameG l pos [] = none → isDom kd l = none) := Lib.hid (fun h => isDom_bad (by rw [HD.out]; exact domG_none hfl.out (by have := HF.out; omega) (nameN_none h)))
            have OUT := fun (h : isDom kd l = none) => Lib.hid (show NamesRef w kd l (.returned (.tuple #[.int .u32 0, .slice none 0 0, .bool false])) _ from ⟨HBV.out.trans (HI.out.below.mono HBV.out.size), .inl ⟨h, rfl⟩⟩)
            have HOUT := Lib.hid OUT
            clear OUT
            by_cases hq : q < n
            · obtain rfl := HA.out hq
              obtain ⟨x, hx⟩ : ∃ x, l[q]? = some x := ⟨l[q]'(by rw [HN.out]; omega), List.getElem?_eq_getElem _⟩
              have hx256 := H256.out x (List.mem_of_getElem? hx)
              have hgd : l.getD q 0 = x := by rw [List.getD_eq_getElem?_getD, hx]; rfl
              have cx : wr.cell? ⟨b, o + q, none⟩ = some (.int .u8 (x : Nat)) := by
                obtain ⟨b', o', e, _, hc⟩ := (HR.out.below (HI.out.below.mono HBV.out.size)) hne
                cases e
                exact hc q x hx
              obtain ⟨m, hm⟩ : ∃ m, m = n - q := ⟨_, rfl⟩
              have hm0 : 0 < m := by omega
              have tm : ((m : Int) == 0) = false := by rw [beq_eq_false_iff_ne]; omega
              have hmI : (0 : Int) < m := by omega
              have w1 : IntKind.i64.wrap (1 + (x : Int)) = 1 + (x : Int) := by rw [show 1 + (x : Int) = ((1 + x : Nat) : Int) by omega]; exact i64_small (by omega)
              have HM := Lib.hid hm
              rw [← hm]
              have HX := Lib.hid hx; have HGD := Lib.hid hgd
              clear hm hx hgd
              by_cases hfar : m < 1 + x
              · have tf : (m : Int) < 1 + (x : Int) := by omega
                have HNO2 := Lib.hid (HNONE.out (by rw [HG.out]; exact nameG_far (by rw [HN.out]; exact hq) (by rw [HGD.out]; omega) (by rw [HGD.out, HN.out]; have := HM.out; omega)))
                clear hfar
                go_wp2_with fail
                refine bodyPost_ret (results_tmp3 Tryz.results15 _ _) rfl (HOUT.out HNO2.out).out
              · have tf : ¬ (m : Int) < 1 + (x : Int) := by omega
                obtain ⟨cc, hcc⟩ : ∃ cc, cc = c - q := ⟨_, rfl⟩
                have hmc : m ≤ cc := by have := HM.out; omega
                have HCC := Lib.hid hcc
                rw [← hcc]
                clear hcc
                have HSZ : Hid (s.length ≤ 1000000) := Lib.hid (by rw [HSS.out]; have h1 := join_len ps; have h2 := HSUM.out; omega)
                by_cases hx0 : x = 0
                · have tx : ((x : Int) == 0) = true := by rw [beq_iff_eq]; omega
                  have HNG : Hid (nameG l pos [] = some (q + 1, ps)) := Lib.hid (by rw [HG.out]; exact nameG_zero (by rw [HN.out]; exact hq) (by rw [HGD.out, hx0]))
                  clear hx0
                  go_upto_region 11 with (fail)
                  go_cut [6] (fun v wy => (∃ A2, v = .slice A2 (m - 1) (cc - 1) ∧ (1 < m → A2 = some ⟨b, o + q + 1, none⟩)) ∧ wr = wy)
                  case first =>
                    by_cases h1 : cc = 1
                    · go_wp2_with fail
                      go_meet
                      case rel => exact ⟨⟨_, by rw [h1], fun h => by omega⟩, rfl⟩
                    · go_wp2_with fail
                      go_meet
                      case rel => exact ⟨⟨_, rfl, fun _ => rfl⟩, rfl⟩
                  case rest =>
                    obtain ⟨⟨A2, rfl, hA2⟩, rfl⟩ := hcut
                    have HA2 := Lib.hid hA2
                    have HPA := Lib.hid (parts71 ⟨s.toArray⟩ (by have := HSZ.out; simp [ByteArray.size]; omega) wr)
                    clear hA2
                    go_wp2_with fail
                    refine (HPA.out).mono ?_
                    rintro e w5 ⟨v5, ps5, rfl, ho5, hb5, hcase⟩
                    obtain ⟨q5, c5, rfl, _⟩ := own_slice2 ho5
                    have HI5 := Lib.hid (HI.out.step hb5)
                    have HNP := Lib.hid (no_parts hcase)
                    have HDJ := Lib.hid (dom_join HPS.out)
                    rw [← HSS.out] at HDJ
                    obtain ⟨k5, hk5⟩ : ∃ k, k = ps5.length := ⟨_, rfl⟩
                    rw [← hk5] at HNP ⊢
                    clear HPA ho5 hb5 hcase hk5
                    by_cases hk0 : k5 = 0
                    · have t5 : ((k5 : Int) == 0) = true := by rw [beq_iff_eq]; omega
                      have hnn : nameN l pos = none := nameN_not HNG.out (by
                        rw [← HSS.out]
                        have h1 := HNP.out.1 hk0
                        have h1 : domOk s = false := h1
                        by_cases e0 : s = []
                        · exact .inl e0
                        · right; intro hle
                          have := HDJ.out.2 ⟨e0, hle⟩
                          rw [h1] at this; cases this)
                      have HNO2 := Lib.hid (isDom_bad (kd := kd) (by rw [HD.out]; exact domG_none hfl.out (by have := HF.out; omega) hnn))
                      clear hk0 hnn
                      go_wp2_with fail
                      refine bodyPost_ret (results_tmp3 Tryz.results15 _ _) rfl ⟨HBV.out.trans (HI5.out.below.mono HBV.out.size), .inl ⟨HNO2.out, rfl⟩⟩
                    · have t5 : ((k5 : Int) == 0) = false := by rw [beq_eq_false_iff_ne]; omega
                      have hdom : domOk s = true := by
                        cases e0 : domOk s with
                        | true => rfl
                        | false => exact absurd (HNP.out.2 e0) hk0
                      have hnn : nameN l pos = some (q + 1, s) := by
                        have h2 := HDJ.out.1 hdom
                        rw [HSS.out] at h2 ⊢
                        exact nameN_some HNG.out h2.1 h2.2
                      have HDN : Hid (domG l (fullL l) 6 [] = domG l (fullL l) (q + 1) (acc ++ [s])) := Lib.hid (by rw [HD.out]; exact domG_step hfl.out (by have := HF.out; omega) hnn)
                      clear hk0 hnn hdom
                      have HNEWS : Hid (∀ j u, ([.string ⟨s.toArray⟩] : List Value)[j]? = some u → (w5.alloc (.cells #[.string ⟨s.toArray⟩] 9)).cell? ((⟨w5.heap.size, 0, none⟩ : Addr).add j) = some u) := Lib.hid (by
                        intro j u hj
                        rw [Addr.add_mid, Nat.zero_add]
                        have c := cell_blk (heap_alloc_new w5 (.cells #[.string ⟨s.toArray⟩] 9)) j
                        exact c.trans (by simpa using hj))
                      have HONE : Hid (∀ u ∈ ([.string ⟨s.toArray⟩] : List Value), u.oneCell' = true) := Lib.hid (by intro u hu; rw [List.mem_singleton] at hu; subst hu; rfl)
                      have hal5 : Below w5.heap.size w5 (w5.alloc (.cells #[.string ⟨s.toArray⟩] 9)) := (Below.refl _ _).alloc (Nat.le_refl _) _
                      have HI6 := Lib.hid (HI5.out.step hal5)
                      have HBA : Hid (wc.heap.size ≤ (w5.alloc (.cells #[.string ⟨s.toArray⟩] 9)).heap.size) := Lib.hid HI6.out.below.size
                      have hpl2 : ac + 1 ≤ maxLen := by have := HAC.out; unfold maxLen; omega
                      have hac16 : ac ≤ 1000000 := by have := HAC.out; omega
                      have HOW : Hid ((w5.alloc (.cells #[.string ⟨s.toArray⟩] 9)).ownsRow wc.heap.size 9 1 (.slice A5 ac cap) ac (strs acc)) := Lib.hid (by rw [HAC.out]; exact HI6.out.own)
                      have HMORE : Hid (∀ A9 c9 w9, (w5.alloc (.cells #[.string ⟨s.toArray⟩] 9)).grownBy w9 (Value.slice A5 ac cap).ownBlock → w9.ownsRow wc.heap.size 9 1 (.slice A9 (ac + 1) c9) (ac + 1) (strs acc ++ [.string ⟨s.toArray⟩]) → DI wc (acc ++ [s]) A9 c9 w9) := Lib.hid (fun A9 c9 w9 hg ho => HI6.out.more (by rw [← HAC.out]; exact hg) (by rw [← HAC.out]; exact ho))
                      clear hal5 HI5
                      go_wp2_with (at_builtin; refine wpList_append_own _ rfl _ _ 45 rfl wc.heap.size 9 i9 (.string ByteArray.empty) 1 16 Tryz.underlying45 hi hz0 hz1 hz2 rfl (by decide) _ ac _ rfl HOW.out ⟨w5.heap.size, 0, none⟩ 1 1 [.string ⟨s.toArray⟩] rfl rfl HNEWS.out HONE.out hpl2 (by omega) HBA.out ?_)
                      intro v9 w9 ho9 hg9 _
                      obtain ⟨A9, c9, rfl, _⟩ := own_slice2 ho9
                      have HI9 := Lib.hid (HMORE.out A9 c9 w9 hg9 ho9)
                      clear ho9 hg9
                      go_wp2_with fail
                      go_roundw
                      case rel => exact ⟨acc ++ [s], A9, c9, q + 1, A2, by omega, by omega, by rw [List.length_append, List.length_singleton, ← HAC.out], by have e1 := HM.out; have e2 := HCC.out; rw [show n - (q + 1) = m - 1 by omega, show c - (q + 1) = cc - 1 by omega], fun h => HA2.out (by have e1 := HM.out; omega), HDN.out, by rw [List.length_append, List.length_singleton]; omega, HI9.out⟩
                      case measure => have e1 := HM.out; simp [lenV]; omega
                · have tx : ((x : Int) == 0) = false := by rw [beq_eq_false_iff_ne]; omega
                  have hmx : 1 + x ≤ m := by omega
                  have ncc : ¬ cc = 1 := by omega
                  obtain ⟨T, hT⟩ : ∃ T, T = labU l (q + 1) x := ⟨_, rfl⟩
                  have HT := Lib.hid hT
                  have hlT : T.length = x := by rw [hT]; unfold labU; rw [List.length_map, List.length_take, List.length_drop, HN.out]; have := HM.out; omega
                  have hconv : (convert 22 9 (.slice (some ⟨b, o + q + 1, none⟩) x (cc - 1))).run Tryz.prog wr = .ok (.string ⟨T.toArray⟩) wr := by
                    have hr := (slice_drop (HR.out.below (HI.out.below.mono HBV.out.size)) (k := q + 1) (by rw [HN.out]; omega))
                    have hlen : ((l.drop (q + 1)).take x).length = x := by rw [List.length_take, List.length_drop, HN.out]; have := HM.out; omega
                    have hb2 : Bs wr w.heap.size (some ⟨b, o + q + 1, none⟩) (cc - 1) ((l.drop (q + 1)).take x) := ⟨fun hne2 => by
                      obtain ⟨b', o', e, hb', hc'⟩ := hr (by intro e2; rw [e2] at hne2; simp at hne2)
                      cases e
                      refine ⟨b, o + (q + 1), rfl, hb', fun j y hj => ?_⟩
                      have hjx : j < x := by have := (List.getElem?_eq_some_iff.1 hj).1; rw [hlen] at this; exact this
                      rw [List.getElem?_take_of_lt hjx] at hj
                      exact hc' j y hj, by rw [hlen]; omega, fun h => (by cases h), by have h1 := HB.out.max; have h2 := HCC.out; omega⟩
                    have := str_bs hb2
                    rw [hlen] at this
                    rw [this, hT]; rfl
                  have hps2 : ∀ p ∈ ps ++ [T], partOk T = true → partOk p = true := fun p hp h => by
                    rcases List.mem_append.1 hp with hp | hp
                    · exact HPS.out p hp
                    · rw [List.mem_singleton] at hp; rw [hp]; exact h
                  have HPS2 := Lib.hid hps2
                  obtain ⟨pre, hpre⟩ : ∃ pre, pre = (if s = [] then [] else s ++ [46] : List UInt8) := ⟨_, rfl⟩
                  have HJ : Hid (joinN (ps ++ [T]) = pre ++ T) := Lib.hid (by
                    rw [hpre]
                    by_cases h0 : ps = []
                    · have : s = [] := by rw [HSS.out, h0]; rfl
                      rw [if_pos this, h0, List.nil_append, List.nil_append]; exact Lib.join_one _ _
                    · have : s ≠ [] := by rw [HSS.out]; exact fun e => h0 ((join_none HPS.out).1 e)
                      rw [if_neg this, join_snoc _ _ h0, HSS.out])
                  have HPRE := Lib.hid hpre
                  have HLT := Lib.hid hlT
                  clear hx0 hT hps2 hlT hpre
                  go_upto_if 47 with (fail)
                  go_cut [7] (fun v wy => v = .string ⟨pre.toArray⟩ ∧ wr = wy)
                  case first =>
                    have hsl : ¬ 9223372036854775807 < s.length + 1 := by have := HSZ.out; omega
                    go_wp2_with fail
                    · rename_i hh
                      have hp0 : pre = s ++ [46] := by
                        rw [HPRE.out, if_neg]
                        rintro rfl
                        cases hh
                      have HP0 := Lib.hid hp0
                      clear hp0
                      go_meet
                      case rel => exact ⟨by rw [HP0.out, ← str_app], rfl⟩
                    · rename_i hh
                      have h0 : s = [] := by cases hs9 : s with
                        | nil => rfl
                        | cons y ys => rw [hs9] at hh; cases hh
                      have hp0 : pre = s := by rw [HPRE.out, if_pos h0, h0]
                      have HP0 := Lib.hid hp0
                      clear hp0 h0
                      go_meet
                      case rel => exact ⟨by rw [HP0.out], rfl⟩
                  case rest =>
                    obtain ⟨rfl, rfl⟩ := hcut
                    have HPA := Lib.hid (parts71 ⟨T.toArray⟩ (by have := HLT.out; simp [ByteArray.size]; omega) wr)
                    go_wp2_with fail
                    refine (HPA.out).mono ?_
                    rintro e w5 ⟨v5, ps5, rfl, ho5, hb5, hcase⟩
                    obtain ⟨q5, c5, rfl, _⟩ := own_slice2 ho5
                    have HI5 := Lib.hid (HI.out.step hb5)
                    have HNP := Lib.hid (one_part hcase)
                    obtain ⟨k5, hk5⟩ : ∃ k, k = ps5.length := ⟨_, rfl⟩
                    rw [← hk5] at HNP ⊢
                    clear HPA ho5 hb5 hcase hk5
                    by_cases hk1 : k5 = 1
                    · have t5 : ((k5 : Int) != 1) = false := by rw [bne_eq_false_iff_eq]; omega
                      have hpt : partOk T = true := HNP.out.1 hk1
                      have HPT := Lib.hid hpt
                      clear hk1 hpt
                      have hpl : ¬ 9223372036854775807 < pre.length + T.length := by
                        have h1 := HLT.out; have h2 := HPRE.out; have h3 := HSZ.out
                        have : pre.length ≤ s.length + 1 := by rw [h2]; split <;> simp
                        omega
                      go_upto_region 18 with (fail)
                      have HGN : Hid (nameG l pos [] = nameG l (q + 1 + x) (ps ++ [T])) := Lib.hid (by
                        rw [HG.out, HT.out]
                        have := nameG_step (acc := ps) (by rw [HN.out]; exact hq) (by rw [HGD.out]; intro e; rw [e] at tx; cases tx) (by rw [HGD.out, HN.out]; have := HM.out; omega) (by rw [HGD.out, ← HT.out]; exact HPT.out)
                        rwa [HGD.out] at this)
                      have HSN : Hid (((ps ++ [T]).map (fun s => s.length + 1)).sum ≤ q + 1 + x) := Lib.hid (by
                        rw [List.map_append, List.sum_append]
                        have h1 := HSUM.out; have h2 := HLT.out
                        simp; omega)
                      have eS : ((⟨pre.toArray⟩ : ByteArray) ++ ⟨T.toArray⟩) = ⟨(joinN (ps ++ [T])).toArray⟩ := by rw [str_app, HJ.out]
                      have HES := Lib.hid eS
                      clear eS hpl
                      by_cases h1 : cc = 1 + x
                      · go_wp2_with fail
                        go_roundw
                        case rel => exact ⟨q + 1 + x, some ⟨b, o + q, none⟩, ps ++ [T], by omega, by have := HM.out; omega, by have e1 := HM.out; have e2 := HCC.out; rw [show n - (q + 1 + x) = m - (1 + x) by omega, show c - (q + 1 + x) = 1 + x - (1 + x) by omega], fun h => by have e1 := HM.out; have e2 := HCC.out; omega, by rw [HES.out], fun p hp => HPS2.out p hp HPT.out, HGN.out, HSN.out, HI5.out⟩
                        case measure => have e1 := HM.out; simp [lenV]; omega
                      · have n1 : ¬ cc = 1 + x := h1
                        go_wp2_with fail
                        go_roundw
                        case rel => exact ⟨q + 1 + x, some ⟨b, o + q + (1 + x), none⟩, ps ++ [T], by omega, by have := HM.out; omega, by have e1 := HM.out; have e2 := HCC.out; rw [show n - (q + 1 + x) = m - (1 + x) by omega, show c - (q + 1 + x) = cc - (1 + x) by omega], fun h => by rw [show o + (q + 1 + x) = o + q + (1 + x) by omega], by rw [HES.out], fun p hp => HPS2.out p hp HPT.out, HGN.out, HSN.out, HI5.out⟩
                        case measure => have e1 := HM.out; simp [lenV]; omega
                    · have t5 : ((k5 : Int) != 1) = true := by rw [bne_iff_ne]; omega
                      have HNO2 := Lib.hid (HNONE.out (by rw [HG.out]; exact nameG_bad (by rw [HN.out]; exact hq) (by rw [HGD.out]; intro e; rw [e] at tx; cases tx) (by
                        rw [HGD.out, ← HT.out]
                        cases e0 : partOk T with
                        | false => rfl
                        | true => exact absurd (HNP.out.2 e0) hk1)))
                      clear hk1
                      go_wp2_with fail
                      refine bodyPost_ret (results_tmp3 Tryz.results15 _ _) rfl ⟨HBV.out.trans (HI5.out.below.mono HBV.out.size), .inl ⟨HNO2.out, rfl⟩⟩
            · have hm : n - q = 0 := by omega
              have HNO2 := Lib.hid (HNONE.out (by rw [HG.out]; exact nameG_end (by rw [HN.out]; exact hq)))
              obtain ⟨cc, hcc⟩ : ∃ cc, cc = c - q := ⟨_, rfl⟩
              rw [hm, ← hcc]
              clear hm hcc
              go_wp2_with fail
              refine bodyPost_ret (results_tmp3 Tryz.results15 _ _) rfl (HOUT.out HNO2.out).out
  · have HD : Hid (isDom kd l = none) := Lib.hid (by
      by_cases k1 : kd = 31
      · exact isDom_short (by rw [HN.out]; exact fun h => hok ⟨k1, h⟩)
      · exact isDom_kind k1)
    have key : ((kd : Int) != 31) = true ∨ ((kd : Int) != 31) = false ∧ (n : Int) < 6 := by
      by_cases k1 : kd = 31
      · right
        exact ⟨by rw [bne_eq_false_iff_eq]; omega, by omega⟩
      · left; rw [bne_iff_ne]; omega
    clear hok
    go_enter Tryz.func15, Tryz.ntmps15
    go_upto_region 1 with (fail)
    rw [← hV]
    clear hV
    rcases key with t1 | ⟨t1, t3⟩
    all_goals
      go_wp2_with fail
      refine bodyPost_ret (results_tmp3 Tryz.results15 _ _) rfl ⟨HBV.out, .inl ⟨HD.out, rfl⟩⟩
end Go.Proofs.YtfolamkjlgpgmaaGreatDoor

