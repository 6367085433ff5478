/- The law on the forms of a text: the groups. No condition. -/
import Derived.Test.YtepoaapadalnoaaDoorFormsA
import Derived.Test.YtepoaapadalnoaaDoorFormsC
import Derived.Outline
import Derived.Deep.DeepCutAuto
namespace Go.Proofs.YtepoaapadalnoaaDoor
open Go.RowKit
set_option linter.unusedVariables false
set_option linter.unusedSimpArgs false
def strL (G : Nat → List UInt8) : List Value := (List.range 8).map fun i => .string ⟨(G i).toArray⟩
def strCells (G : Nat → List UInt8) : Array Value := (strL G).toArray
theorem strCells_get (G : Nat → List UInt8) {i : Nat} (h : i < 8) : (strCells G)[i]? = some (.string ⟨(G i).toArray⟩) := by simp [strCells, strL, h]
theorem strCells_set (G : Nat → List UInt8) (i : Nat) (v : List UInt8) : (strCells G).setIfInBounds i (.string ⟨v.toArray⟩) = strCells fun j => if j = i then v else G j := by
  unfold strCells strL
  rw [List.setIfInBounds_toArray]
  congr 1
  apply List.ext_getElem?
  intro j
  rw [List.getElem?_set]
  by_cases hj : i = j
  · subst hj
    by_cases h8 : i < 8
    · simp [h8]
    · simp [h8]
  · rw [if_neg hj]
    simp only [List.getElem?_map]
    cases h : (List.range 8)[j]? with
    | none => rfl
    | some x =>
      have hx : x = j := by
        rw [List.getElem?_eq_some_iff] at h
        obtain ⟨h1, h2⟩ := h
        simpa using h2.symm
      subst hx
      simp [show ¬ x = i from fun e => hj e.symm]
theorem zeroStr : #[Value.string { data := #[] }, .string { data := #[] }, .string { data := #[] }, .string { data := #[] }, .string { data := #[] }, .string { data := #[] }, .string { data := #[] }, .string { data := #[] }] = strCells fun _ => [] := by kernel_rfl
theorem strCells_congr {G H : Nat → List UInt8} (h : ∀ i, i < 8 → G i = H i) : (some (Obj.cells (strCells G) 34 (0, 0)) : Option Obj) = some (Obj.cells (strCells H) 34 (0, 0)) := by
  have : strCells G = strCells H := by
    unfold strCells strL
    congr 1
    exact List.map_congr_left fun i hi => by rw [h i (by simpa using hi)]
  rw [this]
structure FS (A : Nat) (a : Nat → Nat) (G : Nat → List UInt8) (w W : World) : Prop where
  lay : Lay07 W
  ha : W.heap[A]? = some (.cells (adrCells a) 23 (0, 0))
  hg : W.heap[A + 2]? = some (.cells (strCells G) 34 (0, 0))
  below : Below A w W
  hA : 3 < A
theorem FS.step {A : Nat} {a : Nat → Nat} {G : Nat → List UInt8} {w W W2 : World} (I : FS A a G w W) (hb : Below W.heap.size W W2) : FS A a G w W2 :=
  ⟨I.lay.step hb, (hb.block _ (lt_of_blk I.ha)).trans I.ha, (hb.block _ (lt_of_blk I.hg)).trans I.hg, I.below.trans (hb.mono (Nat.le_of_lt (lt_of_blk I.ha))), I.hA⟩
theorem FS.put {A : Nat} {a : Nat → Nat} {G : Nat → List UInt8} {w W : World} (I : FS A a G w W) (i : Nat) (v : List UInt8) : FS A a (fun j => if j = i then v else G j) w (W.setCell ⟨A + 2, i, none⟩ (.string ⟨v.toArray⟩)) := by
  have t := Turned.setCell I.hg i (.string ⟨v.toArray⟩)
  rw [strCells_set] at t
  have hA := lt_of_blk I.ha
  exact ⟨I.lay.step' (t.below (Nat.le_refl _)) (by have := I.hA; omega), t.keep I.ha (by omega), t.get (lt_of_blk I.hg), I.below.trans (t.below (by omega)), I.hA⟩
/-- and the address that is got -/
structure FC (A C : Nat) (a c : Nat → Nat) (G : Nat → List UInt8) (w W : World) : Prop where
  lay : Lay07 W
  hc : W.heap[C]? = some (.cells (adrCells c) 23 (0, 0))
  hg : W.heap[A + 2]? = some (.cells (strCells G) 34 (0, 0))
  below : Below A w W
  hA : 3 < A
  hC : A + 2 < C
theorem FS.start {A : Nat} {a : Nat → Nat} {G : Nat → List UInt8} {w W : World} (I : FS A a G w W) : FC A W.heap.size a a G w ((W.alloc (.cells (adrCells fun _ => 0) 23)).setRow W.heap.size (adrCells a)) := by
  have hG : (W.alloc (.cells (adrCells fun _ => 0) 23)).heap[W.heap.size]? = some (.cells (adrCells fun _ => 0) 23 (0, 0)) := heap_alloc_new _ _
  have t := Turned.setRow hG (adrCells a)
  have hB : Below W.heap.size W ((W.alloc (.cells (adrCells fun _ => 0) 23)).setRow W.heap.size (adrCells a)) := ((Below.refl W.heap.size W).alloc (Nat.le_refl _) _).trans (t.below (Nat.le_refl _))
  have I2 := I.step hB
  exact ⟨I2.lay, t.get (lt_of_blk hG), I2.hg, I2.below, I.hA, lt_of_blk I.hg⟩
theorem FS.heap_new {A : Nat} {a : Nat → Nat} {G : Nat → List UInt8} {w W : World} (I : FS A a G w W) : (W.alloc (.cells (adrCells fun _ => 0) 23)).heap[W.heap.size]? = some (.cells (adrCells fun _ => 0) 23 (0, 0)) := heap_alloc_new _ _
theorem FC.zero {A C f t k : Nat} {a : Nat → Nat} {G : Nat → List UInt8} {w W : World} (I : FC A C a (zeroC a f t k) G w W) (h : f ≤ k) (ht : k < t) (hk : k < 8) :
    FC A C a (zeroC a f t (k + 1)) G w ((W.setCell ⟨C, 2 * k, none⟩ (.int .u8 0)).setCell ⟨C, 2 * k + 1, none⟩ (.int .u8 0)) := by
  have t1 := Turned.setCell I.hc (2 * k) (.int .u8 ((0 : Nat) : Int))
  rw [adrCells_set] at t1
  have hC := lt_of_blk I.hc
  have t2 := Turned.setCell (t1.get hC) (2 * k + 1) (.int .u8 ((0 : Nat) : Int))
  rw [adrCells_set] at t2
  have t3 := t1.trans t2
  have hlt := I.hC
  refine ⟨I.lay.step' (t3.below (Nat.le_refl _)) (by have := I.hA; omega), ?_, t3.keep I.hg (by omega), I.below.trans (t3.below (by omega)), I.hA, I.hC⟩
  rw [zeroC_in h ht]
  exact t3.get hC
theorem FC.same {A C f t k : Nat} {a : Nat → Nat} {G : Nat → List UInt8} {w W : World} (I : FC A C a (zeroC a f t k) G w W) (h : ¬ (f ≤ k ∧ k < t)) : FC A C a (zeroC a f t (k + 1)) G w W := by
  rw [zeroC_out h]; exact I
theorem FC.step {A C : Nat} {a c : Nat → Nat} {G : Nat → List UInt8} {w W W2 : World} (I : FC A C a c G w W) (hb : Below W.heap.size W W2) : FC A C a c G w W2 :=
  ⟨I.lay.step hb, (hb.block _ (lt_of_blk I.hc)).trans I.hc, (hb.block _ (lt_of_blk I.hg)).trans I.hg, I.below.trans (hb.mono (by have := lt_of_blk I.hg; omega)), I.hA, I.hC⟩
def bitB (big i : Nat) : Bool := big / 2 ^ i % 2 == 1
/-- so many groups' digits -/
def gD (a : Nat → Nat) (big k : Nat) (j : Nat) : List UInt8 := if j < k then fourC (bitB big j) (grp a j) else []
/-- while the next one is written -/
def gS (a : Nat → Nat) (big k : Nat) (v : List UInt8) (j : Nat) : List UInt8 := if j = k then v else gD a big k j
theorem gS_start {A k big : Nat} {a : Nat → Nat} {w W : World} (h : FS A a (gD a big k) w W) : FS A a (gS a big k []) w W := by
  rw [show gS a big k [] = gD a big k from ?_]
  · exact h
  · funext j
    unfold gS gD
    by_cases hj : j = k
    · rw [if_pos hj, if_neg (by omega)]
    · rw [if_neg hj]
theorem gS_put {A k big : Nat} {a : Nat → Nat} {v : List UInt8} {w W : World} (hk : k < 8) (h : FS A a (gS a big k v) w W) :
    FS A a (gD a big (k + 1)) w (W.setCell ⟨A + 1 + 1, k, none⟩ (.string ⟨(fourC (bitB big k) (grp a k)).toArray⟩)) ∧ FS A a (gS a big k (fourC (bitB big k) (grp a k))) w (W.setCell ⟨A + 1 + 1, k, none⟩ (.string ⟨(fourC (bitB big k) (grp a k)).toArray⟩)) := by
  have h1 := h.put k (fourC (bitB big k) (grp a k))
  have e : (fun j => if j = k then fourC (bitB big k) (grp a k) else gS a big k v j) = gS a big k (fourC (bitB big k) (grp a k)) := by
    funext j
    unfold gS
    by_cases hj : j = k
    · rw [if_pos hj, if_pos hj]
    · rw [if_neg hj, if_neg hj, if_neg hj]
  have e2 : gS a big k (fourC (bitB big k) (grp a k)) = gD a big (k + 1) := by
    funext j
    unfold gS gD
    by_cases hj : j = k
    · subst hj; rw [if_pos rfl, if_pos (by omega)]
    · rw [if_neg hj]
      by_cases h2 : j < k
      · rw [if_pos h2, if_pos (by omega)]
      · rw [if_neg h2, if_neg (by omega)]
  rw [e] at h1
  exact ⟨e2 ▸ h1, h1⟩
theorem gD_all {A big : Nat} {a : Nat → Nat} {w W : World} (h : FS A a (gD a big 8) w W) : FS A a (pieceC a (bitB big) false) w W := by
  refine ⟨h.lay, h.ha, h.hg.trans ?_, h.below, h.hA⟩
  rw [strCells_congr fun i hi => ?_]
  unfold gD pieceC
  rw [if_pos hi, if_neg (by simp)]
/-- while the decimals are written -/
def gT (a : Nat → Nat) (big : Nat) (v : List UInt8) (j : Nat) : List UInt8 := if j = 6 then v else gD a big 8 j
theorem gT_start {A big : Nat} {a : Nat → Nat} {w W : World} (h : FS A a (gD a big 8) w W) : FS A a (gT a big (gD a big 8 6)) w W := by
  rw [show gT a big (gD a big 8 6) = gD a big 8 from ?_]
  · exact h
  · funext j
    unfold gT
    by_cases hj : j = 6
    · rw [if_pos hj, hj]
    · rw [if_neg hj]
theorem gT_put {A big : Nat} {a : Nat → Nat} {v : List UInt8} {w W : World} (h : FS A a (gT a big v) w W) {t : ByteArray} (ht : t = ⟨(tailC (a 12) (a 13) (a 14) (a 15)).toArray⟩) :
    FS A a (pieceC a (bitB big) true) w (W.setCell ⟨A + 1 + 1, 6, none⟩ (.string t)) ∧ ∃ v, FS A a (gT a big v) w (W.setCell ⟨A + 1 + 1, 6, none⟩ (.string t)) := by
  subst ht
  have h1 := h.put 6 (tailC (a 12) (a 13) (a 14) (a 15))
  refine ⟨⟨h1.lay, h1.ha, h1.hg.trans ?_, h1.below, h1.hA⟩, tailC (a 12) (a 13) (a 14) (a 15), ⟨h1.lay, h1.ha, h1.hg.trans ?_, h1.below, h1.hA⟩⟩
  · rw [strCells_congr fun i hi => ?_]
    unfold gT pieceC gD
    by_cases h6 : i = 6
    · rw [if_pos h6, if_pos ⟨rfl, h6⟩]
    · rw [if_neg h6, if_neg h6, if_pos hi, if_neg (fun h => h6 h.2)]
  · rw [strCells_congr fun i hi => ?_]
    unfold gT
    by_cases h6 : i = 6
    · rw [if_pos h6, if_pos h6]
    · rw [if_neg h6, if_neg h6, if_neg h6]
theorem dec_str {n : Nat} (h : n < 256) : ∃ s : ByteArray, (⟨(decC n).toArray⟩ : ByteArray) = s ∧ s.size ≤ 3 := ⟨_, rfl, by have := (decC_get h).2.2.2.2; simpa [ByteArray.size] using this⟩
theorem decimal15n (n : Nat) (s : ByteArray) (w : World) (hn : n < 256) (hs : (⟨(decC n).toArray⟩ : ByteArray) = s) : Calls Tryd.prog 15 #[.int .u8 (n : Int)] w fun e w' => e = .returned (.string s) ∧ w = w' := by
  subst hs; exact decimal15 n w hn
theorem tail_cat {a b c d : Nat} {s12 s13 s14 s15 : ByteArray} (e12 : (⟨(decC a).toArray⟩ : ByteArray) = s12) (e13 : (⟨(decC b).toArray⟩ : ByteArray) = s13) (e14 : (⟨(decC c).toArray⟩ : ByteArray) = s14) (e15 : (⟨(decC d).toArray⟩ : ByteArray) = s15) :
    s12 ++ { data := #[46] } ++ s13 ++ { data := #[46] } ++ s14 ++ { data := #[46] } ++ s15 = ⟨(tailC a b c d).toArray⟩ := by
  rw [← e12, ← e13, ← e14, ← e15]
  apply ByteArray.ext
  simp [tailC]
theorem gT_put2 {A big : Nat} {a : Nat → Nat} {v : List UInt8} {w W : World} (h : FS A a (gT a big v) w W) {s12 s13 s14 s15 : ByteArray} (e12 : (⟨(decC (a 12)).toArray⟩ : ByteArray) = s12) (e13 : (⟨(decC (a 13)).toArray⟩ : ByteArray) = s13) (e14 : (⟨(decC (a 14)).toArray⟩ : ByteArray) = s14) (e15 : (⟨(decC (a 15)).toArray⟩ : ByteArray) = s15) :
    FS A a (pieceC a (bitB big) true) w (W.setCell ⟨A + 1 + 1, 6, none⟩ (.string (s12 ++ { data := #[46] } ++ s13 ++ { data := #[46] } ++ s14 ++ { data := #[46] } ++ s15))) ∧ ∃ v, FS A a (gT a big v) w (W.setCell ⟨A + 1 + 1, 6, none⟩ (.string (s12 ++ { data := #[46] } ++ s13 ++ { data := #[46] } ++ s14 ++ { data := #[46] } ++ s15))) :=
  gT_put h (tail_cat e12 e13 e14 e15)
theorem size_catF (a b : ByteArray) : (a ++ b).size = a.size + b.size := by simp
theorem bit_at {big : Nat} (k : Nat) (hb : big < 256) : (bits .and .u8 ((big : Int) / 2 ^ k) 1 == 1) = bitB big k := by
  have e : (big : Int) / 2 ^ k = ((big / 2 ^ k : Nat) : Int) := by simp [Int.natCast_ediv]
  have hl : big / 2 ^ k < 256 := Nat.lt_of_le_of_lt (Nat.div_le_self _ _) hb
  rw [e, show (1 : Int) = ((1 : Nat) : Int) from rfl, (bits_nat .u8 8 (by decide) (fun n h0 h1 => by simp [IntKind.wrap, IntKind.signed, IntKind.bits]; omega) (big / 2 ^ k) 1 (by omega) (by omega)).1, Nat.and_one_is_mod]
  unfold bitB
  rw [Bool.eq_iff_iff]
  simp only [beq_iff_eq]
  omega
set_option maxRecDepth 100000 in
set_option maxHeartbeats 40000000 in
theorem textsForms_walk (a : Nat → Nat) (big z0 z1 z2 : Nat) (ha : ∀ i, i < 16 → a i < 256) (hb : big < 256) (h0 : z0 < 256) (h1 : z1 < 256) (h2 : z2 < 256) (w : World) (L : Lay07 w) :
    Calls Tryd.prog 6 #[.agg (adrCells a), .int .u8 big, .agg #[.int .u8 z0, .int .u8 z1, .int .u8 z2]] w fun e w' => e = .returned (.bool true) ∧ Below w.heap.size w w' := by
  obtain ⟨tl, htl⟩ : ∃ tl : Bool, ((z0 : Int) % 2 == 1) = tl := ⟨_, rfl⟩
  obtain ⟨f, hf⟩ : ∃ f, z1 % 9 = f := ⟨_, rfl⟩
  obtain ⟨u, hu⟩ : ∃ u, z2 % (9 - f) = u := ⟨_, rfl⟩
  have hf9 : f < 9 := by omega
  have hfu : f + u < 9 := by have := Nat.mod_lt z2 (show 9 - f > 0 by omega); omega
  have hf2 : (z1 : Int) % 9 = (f : Int) := by omega
  have hu2 : (z2 : Int) % (9 - (f : Int)) = (u : Int) := by rw [← hu, show 9 - (f : Int) = ((9 - f : Nat) : Int) by omega]; rfl
  have hw : wrap64 ((f : Int) + (u : Int)) = ((f + u : Nat) : Int) := by unfold wrap64; omega
  have B0 : Below w.heap.size w (((w.alloc (.cells (adrCells a) 23)).alloc (.cells #[.int .u8 z0, .int .u8 z1, .int .u8 z2] 33)).alloc (.cells (strCells fun _ => []) 34)) := (((Below.refl _ _).alloc (Nat.le_refl _) _).alloc (by simp) _).alloc (by simp; omega) _
  have I0 : FS w.heap.size a (fun _ => []) w (((w.alloc (.cells (adrCells a) 23)).alloc (.cells #[.int .u8 z0, .int .u8 z1, .int .u8 z2] 33)).alloc (.cells (strCells fun _ => []) 34)) := by
    refine ⟨L.step B0, ?_, ?_, B0, L.lt⟩
    · rw [heap_alloc_old _ _ (by simp; omega), heap_alloc_old _ _ (by simp)]; exact heap_alloc_new _ _
    · have := heap_alloc_new ((w.alloc (.cells (adrCells a) 23)).alloc (.cells #[.int .u8 z0, .int .u8 z1, .int .u8 z2] 33)) (.cells (strCells fun _ => []) 34)
      simpa using this
  rw [← zeroStr] at I0
  have I := Lib.hid I0
  clear I0 B0 L hf hu
  go_enter Tryd.func6, Tryd.ntmps6
  go_wp2_with fail
  rw [hf2]
  clear htl hf2 hu2 hw
  obtain ⟨A, hA⟩ : ∃ A, A = w.heap.size := ⟨_, rfl⟩
  rw [← hA] at I ⊢
  have NA := Lib.hid hA; clear hA
  go_loopw [11] (fun i wr => ∃ k : Nat, k ≤ 8 ∧ i = .int .i64 k ∧ FS A a (gD a big k) w wr) (fun i _ => 8 - (intOf i).toNat)
  case atStart => exact ⟨0, by omega, rfl, I.out⟩
  case round =>
    clear I
    obtain ⟨k, hk, rfl, I⟩ := hrel
    by_cases hlt : k < 8
    · have c1 := fun (W : World) (h : ∃ v, FS A a (gS a big k v) w W) => h.elim fun v h => (cell_blk h.ha (2 * k)).trans (adrCells_get a (by omega))
      have c2 := fun (W : World) (h : ∃ v, FS A a (gS a big k v) w W) => h.elim fun v h => (cell_blk h.ha (2 * k + 1)).trans (adrCells_get a (by omega))
      have o1 : 0 ≤ 2 * (k : Int) ∧ 2 * (k : Int) < 16 := by omega
      have o2 : 0 ≤ 2 * (k : Int) + 1 ∧ 2 * (k : Int) + 1 < 16 := by omega
      have o3 : ¬ ((16 : Int) ≤ 2 * k) := by omega
      have o4 : ¬ ((16 : Int) ≤ 2 * k + 1) := by omega
      have e9 : bits .or .u16 (IntKind.u16.wrap (IntKind.u16.wrap (a (2 * k) : Int) * 256)) (IntKind.u16.wrap (a (2 * k + 1) : Int)) = (grp a k : Int) := grp_or (ha (2 * k) (by omega)) (ha (2 * k + 1) (by omega))
      have e10 := bit_at k hb
      have HI := Lib.hid I
      clear I
      go_wp2_with fail
      have hS : ∃ v, FS A a (gS a big k v) w wr.drew := ⟨[], gS_start (HI.out.step (Below.refl _ _).drew)⟩
      clear HI
      refine wp_region_held_drew (S := fun W => ∃ v, FS A a (gS a big k v) w W) (by kernel_rfl) hS ?_
      clear hS
      intro HS
      refine wpAnyH_take (i := 0) (v := ?_) rfl (by kernel_rfl) (by kernel_rfl) (by kernel_rfl) (fun _ _ _ h => h) (Or.inl ⟨by go_simp, ?hy⟩) HS ?_
      case hy => intro W hW; go_simp; (try with_reducible rfl)
      try simp only [List.getElem_toArray, List.getElem_cons_zero, List.getElem_cons_succ, Act.put, List.setIfInBounds_toArray, List.set_cons_zero, List.set_cons_succ]
      refine wpAnyH_take (i := 1) (v := ?_) rfl (by kernel_rfl) (by kernel_rfl) (by kernel_rfl) (fun _ _ _ h => h) (Or.inl ⟨by go_simp, ?hy⟩) HS ?_
      case hy => intro W hW; go_simp; (try with_reducible rfl)
      try simp only [List.getElem_toArray, List.getElem_cons_zero, List.getElem_cons_succ, Act.put, List.setIfInBounds_toArray, List.set_cons_zero, List.set_cons_succ]
      refine wpAnyH_take (i := 7) (v := ?_) rfl (by kernel_rfl) (by kernel_rfl) (by kernel_rfl) (fun _ _ _ h => h) (Or.inl ⟨by go_simp, ?hy⟩) HS ?_
      case hy => intro W hW; go_simp; (try with_reducible rfl)
      try simp only [List.getElem_toArray, List.getElem_cons_zero, List.getElem_cons_succ, Act.put, List.setIfInBounds_toArray, List.set_cons_zero, List.set_cons_succ]
      refine wpAnyH_take (i := 14) (v := ?_) rfl (by kernel_rfl) (by kernel_rfl) (by kernel_rfl) (fun _ _ _ h => h) (Or.inl ⟨by go_simp, ?hy⟩) HS ?_
      case hy => intro W hW; go_simp; (try with_reducible rfl)
      try simp only [List.getElem_toArray, List.getElem_cons_zero, List.getElem_cons_succ, Act.put, List.setIfInBounds_toArray, List.set_cons_zero, List.set_cons_succ]
      refine wpAnyH_take (i := 15) (v := ?_) rfl (by kernel_rfl) (by kernel_rfl) (by kernel_rfl) (fun _ _ _ h => h) (Or.inl ⟨by go_simp, ?hy⟩) HS ?_
      case hy => intro W hW; go_simp; (try with_reducible rfl)
      try simp only [List.getElem_toArray, List.getElem_cons_zero, List.getElem_cons_succ, Act.put, List.setIfInBounds_toArray, List.set_cons_zero, List.set_cons_succ]
      refine wpAnyH_take (i := 2) (v := .int .i64 (2 * (k : Int))) rfl (by kernel_rfl) (by kernel_rfl) (by kernel_rfl) (fun _ _ _ h => h) (Or.inl ⟨by go_simp, fun W hW => by go_simp; (try exact i64_small (m := 2 * k) (by omega))⟩) HS ?_
      try simp only [List.getElem_toArray, List.getElem_cons_zero, List.getElem_cons_succ, Act.put, List.setIfInBounds_toArray, List.set_cons_zero, List.set_cons_succ]
      refine wpAnyH_take (i := 8) (v := .int .i64 (2 * (k : Int))) rfl (by kernel_rfl) (by kernel_rfl) (by kernel_rfl) (fun _ _ _ h => h) (Or.inl ⟨by go_simp, fun W hW => by go_simp; (try exact i64_small (m := 2 * k) (by omega))⟩) HS ?_
      try simp only [List.getElem_toArray, List.getElem_cons_zero, List.getElem_cons_succ, Act.put, List.setIfInBounds_toArray, List.set_cons_zero, List.set_cons_succ]
      refine wpAnyH_take (i := 9) (v := .int .i64 (2 * (k : Int) + 1)) rfl (by kernel_rfl) (by kernel_rfl) (by kernel_rfl) (fun _ _ _ h => h) (Or.inl ⟨by go_simp, fun W hW => by go_simp; (try exact i64_small (m := 2 * k + 1) (by omega))⟩) HS ?_
      try simp only [List.getElem_toArray, List.getElem_cons_zero, List.getElem_cons_succ, Act.put, List.setIfInBounds_toArray, List.set_cons_zero, List.set_cons_succ]
      refine wpAnyH_take (i := 3) (v := .pointer (some ⟨A, 2 * k, none⟩)) rfl (by kernel_rfl) (by kernel_rfl) (by kernel_rfl) (fun _ _ _ h => h) (Or.inl ⟨by go_simp, fun W hW => by go_simp; (try omega)⟩) HS ?_
      try simp only [List.getElem_toArray, List.getElem_cons_zero, List.getElem_cons_succ, Act.put, List.setIfInBounds_toArray, List.set_cons_zero, List.set_cons_succ]
      refine wpAnyH_take (i := 10) (v := .pointer (some ⟨A, 2 * k + 1, none⟩)) rfl (by kernel_rfl) (by kernel_rfl) (by kernel_rfl) (fun _ _ _ h => h) (Or.inl ⟨by go_simp, fun W hW => by go_simp; (try omega)⟩) HS ?_
      try simp only [List.getElem_toArray, List.getElem_cons_zero, List.getElem_cons_succ, Act.put, List.setIfInBounds_toArray, List.set_cons_zero, List.set_cons_succ]
      refine wpAnyH_take (i := 4) (v := ?_) rfl (by kernel_rfl) (by kernel_rfl) (by kernel_rfl) (fun _ _ _ h => h) (Or.inl ⟨by go_simp, ?hy⟩) HS ?_
      case hy => intro W hW; have c := c1 W hW; go_simp; (try with_reducible rfl)
      try simp only [List.getElem_toArray, List.getElem_cons_zero, List.getElem_cons_succ, Act.put, List.setIfInBounds_toArray, List.set_cons_zero, List.set_cons_succ]
      refine wpAnyH_take (i := 11) (v := ?_) rfl (by kernel_rfl) (by kernel_rfl) (by kernel_rfl) (fun _ _ _ h => h) (Or.inl ⟨by go_simp, ?hy⟩) HS ?_
      case hy => intro W hW; have c := c2 W hW; go_simp; (try with_reducible rfl)
      try simp only [List.getElem_toArray, List.getElem_cons_zero, List.getElem_cons_succ, Act.put, List.setIfInBounds_toArray, List.set_cons_zero, List.set_cons_succ]
      refine wpAnyH_take (i := 5) (v := ?_) rfl (by kernel_rfl) (by kernel_rfl) (by kernel_rfl) (fun _ _ _ h => h) (Or.inl ⟨by go_simp, ?hy⟩) HS ?_
      case hy => intro W hW; go_simp; (try with_reducible rfl)
      try simp only [List.getElem_toArray, List.getElem_cons_zero, List.getElem_cons_succ, Act.put, List.setIfInBounds_toArray, List.set_cons_zero, List.set_cons_succ]
      refine wpAnyH_take (i := 6) (v := ?_) rfl (by kernel_rfl) (by kernel_rfl) (by kernel_rfl) (fun _ _ _ h => h) (Or.inl ⟨by go_simp, ?hy⟩) HS ?_
      case hy => intro W hW; go_simp; (try with_reducible rfl)
      try simp only [List.getElem_toArray, List.getElem_cons_zero, List.getElem_cons_succ, Act.put, List.setIfInBounds_toArray, List.set_cons_zero, List.set_cons_succ]
      refine wpAnyH_take (i := 12) (v := ?_) rfl (by kernel_rfl) (by kernel_rfl) (by kernel_rfl) (fun _ _ _ h => h) (Or.inl ⟨by go_simp, ?hy⟩) HS ?_
      case hy => intro W hW; go_simp; (try with_reducible rfl)
      try simp only [List.getElem_toArray, List.getElem_cons_zero, List.getElem_cons_succ, Act.put, List.setIfInBounds_toArray, List.set_cons_zero, List.set_cons_succ]
      refine wpAnyH_take (i := 13) (v := .int .u16 (grp a k : Int)) rfl (by kernel_rfl) (by kernel_rfl) (by kernel_rfl) (fun _ _ _ h => h) (Or.inl ⟨by go_simp, fun W hW => by go_simp; (try exact e9)⟩) HS ?_
      try simp only [List.getElem_toArray, List.getElem_cons_zero, List.getElem_cons_succ, Act.put, List.setIfInBounds_toArray, List.set_cons_zero, List.set_cons_succ]
      refine wpAnyH_take (i := 16) (v := ?_) rfl (by kernel_rfl) (by kernel_rfl) (by kernel_rfl) (fun _ _ _ h => h) (Or.inl ⟨by go_simp, ?hy⟩) HS ?_
      case hy => intro W hW; go_simp; (try with_reducible rfl)
      try simp only [List.getElem_toArray, List.getElem_cons_zero, List.getElem_cons_succ, Act.put, List.setIfInBounds_toArray, List.set_cons_zero, List.set_cons_succ]
      refine wpAnyH_take (i := 17) (v := ?_) rfl (by kernel_rfl) (by kernel_rfl) (by kernel_rfl) (fun _ _ _ h => h) (Or.inl ⟨by go_simp, ?hy⟩) HS ?_
      case hy => intro W hW; go_simp; (try with_reducible rfl)
      try simp only [List.getElem_toArray, List.getElem_cons_zero, List.getElem_cons_succ, Act.put, List.setIfInBounds_toArray, List.set_cons_zero, List.set_cons_succ]
      refine wpAnyH_take (i := 18) (v := .bool (bitB big k)) rfl (by kernel_rfl) (by kernel_rfl) (by kernel_rfl) (fun _ _ _ h => h) (Or.inl ⟨by go_simp, fun W hW => by go_simp; (try exact e10)⟩) HS ?_
      try simp only [List.getElem_toArray, List.getElem_cons_zero, List.getElem_cons_succ, Act.put, List.setIfInBounds_toArray, List.set_cons_zero, List.set_cons_succ]
      refine wpAnyH_ready (rs := [19]) (by kernel_rfl) (by simp) ?_
      refine AllReadyH.cons rfl (fun K hK => ?_) AllReadyH.nil
      rw [if_pos (by kernel_rfl)]
      simp only [List.getElem_toArray, List.getElem_cons_zero, List.getElem_cons_succ]
      go_simp
      refine (digits14 _ _ _ (grp_lt ha k hlt)).mono ?_
      rintro e w5 ⟨rfl, rfl⟩
      refine hK.out _ _ (HS) (fun HS => ?_)
      clear hK
      try simp only [List.getElem_toArray, List.getElem_cons_zero, List.getElem_cons_succ, Act.put, List.setIfInBounds_toArray, List.set_cons_zero, List.set_cons_succ]
      refine wpAnyH_take (i := 20) (v := .pointer (some ⟨A + 1 + 1, k, none⟩)) rfl (by kernel_rfl) (by kernel_rfl) (by kernel_rfl) (fun _ _ _ h => h) (Or.inl ⟨by go_simp, fun W hW => by go_simp; (try omega)⟩) HS ?_
      try simp only [List.getElem_toArray, List.getElem_cons_zero, List.getElem_cons_succ, Act.put, List.setIfInBounds_toArray, List.set_cons_zero, List.set_cons_succ]
      refine wpAnyH_ready (rs := [21]) (by kernel_rfl) (by simp) ?_
      refine AllReadyH.cons rfl (fun K hK => ?_) AllReadyH.nil
      rw [if_pos (by kernel_rfl)]
      simp only [List.getElem_toArray, List.getElem_cons_zero, List.getElem_cons_succ]
      obtain ⟨v0, HV⟩ := HS
      have c3 := cell_blk HV.hg k
      rw [strCells_get _ hlt] at c3
      have hz := frozen_blk HV.hg k
      replace c3 : World.cell? _ ⟨A + 1 + 1, k, none⟩ = _ := c3
      replace hz : World.frozen? _ ⟨A + 1 + 1, k, none⟩ = _ := hz
      go_simp
      have HP := Lib.hid (gS_put hlt HV)
      clear HV c3 hz
      refine hK.out _ _ ⟨_, HP.out.2⟩ (fun HS2 => ?_)
      clear hK
      refine wpAnyH_done (by kernel_rfl) ?_ _
      go_wp2_with fail
      go_roundw
      case rel => exact ⟨k + 1, by omega, by go_num, HP.out.1⟩
      case measure => simp [intOf]; omega
    · obtain rfl : k = 8 := by omega
      have HI := Lib.hid I
      clear I
      go_upto_if 59 with (fail)
      go_cut [12] (fun m wx => m = .int .i64 ((manyC tl : Nat) : Int) ∧ FS A a (pieceC a (bitB big) tl) w wx)
      case first =>
        cases tl
        · go_wp2_with fail
          go_meet
          case rel => exact ⟨rfl, gD_all HI.out⟩
        · go_upto_region 12 with (fail)
          have hS : ∃ v, FS A a (gT a big v) w wr.drew := ⟨_, gT_start (HI.out.step (Below.refl _ _).drew)⟩
          clear HI
          have d12 := fun (W : World) (h : ∃ v, FS A a (gT a big v) w W) => h.elim fun v h => (cell_blk h.ha 12).trans (adrCells_get a (by decide))
          have d13 := fun (W : World) (h : ∃ v, FS A a (gT a big v) w W) => h.elim fun v h => (cell_blk h.ha 13).trans (adrCells_get a (by decide))
          have d14 := fun (W : World) (h : ∃ v, FS A a (gT a big v) w W) => h.elim fun v h => (cell_blk h.ha 14).trans (adrCells_get a (by decide))
          have d15 := fun (W : World) (h : ∃ v, FS A a (gT a big v) w W) => h.elim fun v h => (cell_blk h.ha 15).trans (adrCells_get a (by decide))
          obtain ⟨s12, e12, l12⟩ := dec_str (ha 12 (by decide))
          obtain ⟨s13, e13, l13⟩ := dec_str (ha 13 (by decide))
          obtain ⟨s14, e14, l14⟩ := dec_str (ha 14 (by decide))
          obtain ⟨s15, e15, l15⟩ := dec_str (ha 15 (by decide))
          have m1 : ¬ (9223372036854775807 < s12.size + 1) := by omega
          have m2 : ¬ (9223372036854775807 < s12.size + 1 + s13.size) := by omega
          have m3 : ¬ (9223372036854775807 < s12.size + 1 + s13.size + 1) := by omega
          have m4 : ¬ (9223372036854775807 < s12.size + 1 + s13.size + 1 + s14.size) := by omega
          have m5 : ¬ (9223372036854775807 < s12.size + 1 + s13.size + 1 + s14.size + 1) := by omega
          have m6 : ¬ (9223372036854775807 < s12.size + 1 + s13.size + 1 + s14.size + 1 + s15.size) := by omega
          refine wp_region_held_drew (S := fun W => ∃ v, FS A a (gT a big v) w W) (by kernel_rfl) hS ?_
          clear hS
          intro HS
          refine wpAnyH_take (i := 0) (v := .pointer (some ⟨A, 12, none⟩)) rfl (by kernel_rfl) (by kernel_rfl) (by kernel_rfl) (fun _ _ _ h => h) (Or.inl ⟨by go_simp, fun W hW => by go_simp; (try omega)⟩) HS ?_
          try simp only [List.getElem_toArray, List.getElem_cons_zero, List.getElem_cons_succ, Act.put, List.setIfInBounds_toArray, List.set_cons_zero, List.set_cons_succ]
          refine wpAnyH_take (i := 4) (v := .pointer (some ⟨A, 13, none⟩)) rfl (by kernel_rfl) (by kernel_rfl) (by kernel_rfl) (fun _ _ _ h => h) (Or.inl ⟨by go_simp, fun W hW => by go_simp; (try omega)⟩) HS ?_
          try simp only [List.getElem_toArray, List.getElem_cons_zero, List.getElem_cons_succ, Act.put, List.setIfInBounds_toArray, List.set_cons_zero, List.set_cons_succ]
          refine wpAnyH_take (i := 9) (v := .pointer (some ⟨A, 14, none⟩)) rfl (by kernel_rfl) (by kernel_rfl) (by kernel_rfl) (fun _ _ _ h => h) (Or.inl ⟨by go_simp, fun W hW => by go_simp; (try omega)⟩) HS ?_
          try simp only [List.getElem_toArray, List.getElem_cons_zero, List.getElem_cons_succ, Act.put, List.setIfInBounds_toArray, List.set_cons_zero, List.set_cons_succ]
          refine wpAnyH_take (i := 14) (v := .pointer (some ⟨A, 15, none⟩)) rfl (by kernel_rfl) (by kernel_rfl) (by kernel_rfl) (fun _ _ _ h => h) (Or.inl ⟨by go_simp, fun W hW => by go_simp; (try omega)⟩) HS ?_
          try simp only [List.getElem_toArray, List.getElem_cons_zero, List.getElem_cons_succ, Act.put, List.setIfInBounds_toArray, List.set_cons_zero, List.set_cons_succ]
          refine wpAnyH_take (i := 1) (v := ?_) rfl (by kernel_rfl) (by kernel_rfl) (by kernel_rfl) (fun _ _ _ h => h) (Or.inl ⟨by go_simp, ?hy⟩) HS ?_
          case hy => intro W hW; have c := d12 W hW; go_simp; (try with_reducible rfl)
          try simp only [List.getElem_toArray, List.getElem_cons_zero, List.getElem_cons_succ, Act.put, List.setIfInBounds_toArray, List.set_cons_zero, List.set_cons_succ]
          refine wpAnyH_take (i := 5) (v := ?_) rfl (by kernel_rfl) (by kernel_rfl) (by kernel_rfl) (fun _ _ _ h => h) (Or.inl ⟨by go_simp, ?hy⟩) HS ?_
          case hy => intro W hW; have c := d13 W hW; go_simp; (try with_reducible rfl)
          try simp only [List.getElem_toArray, List.getElem_cons_zero, List.getElem_cons_succ, Act.put, List.setIfInBounds_toArray, List.set_cons_zero, List.set_cons_succ]
          refine wpAnyH_take (i := 10) (v := ?_) rfl (by kernel_rfl) (by kernel_rfl) (by kernel_rfl) (fun _ _ _ h => h) (Or.inl ⟨by go_simp, ?hy⟩) HS ?_
          case hy => intro W hW; have c := d14 W hW; go_simp; (try with_reducible rfl)
          try simp only [List.getElem_toArray, List.getElem_cons_zero, List.getElem_cons_succ, Act.put, List.setIfInBounds_toArray, List.set_cons_zero, List.set_cons_succ]
          refine wpAnyH_take (i := 15) (v := ?_) rfl (by kernel_rfl) (by kernel_rfl) (by kernel_rfl) (fun _ _ _ h => h) (Or.inl ⟨by go_simp, ?hy⟩) HS ?_
          case hy => intro W hW; have c := d15 W hW; go_simp; (try with_reducible rfl)
          try simp only [List.getElem_toArray, List.getElem_cons_zero, List.getElem_cons_succ, Act.put, List.setIfInBounds_toArray, List.set_cons_zero, List.set_cons_succ]
          refine wpAnyH_ready (rs := [2]) (by kernel_rfl) (by simp) ?_
          refine AllReadyH.cons rfl (fun K hK => ?_) AllReadyH.nil
          rw [if_pos (by kernel_rfl)]
          simp only [List.getElem_toArray, List.getElem_cons_zero, List.getElem_cons_succ]
          go_simp
          refine (decimal15n _ _ _ (ha 12 (by decide)) e12).mono ?_
          rintro e w5 ⟨rfl, rfl⟩
          refine hK.out _ _ (HS) (fun HS => ?_)
          clear hK
          try simp only [List.getElem_toArray, List.getElem_cons_zero, List.getElem_cons_succ, Act.put, List.setIfInBounds_toArray, List.set_cons_zero, List.set_cons_succ]
          refine wpAnyH_take (i := 3) (v := ?_) rfl (by kernel_rfl) (by kernel_rfl) (by kernel_rfl) (fun _ _ _ h => h) (Or.inl ⟨by go_simp, ?hy⟩) HS ?_
          case hy => intro W hW; go_simp; (try with_reducible rfl)
          try simp only [List.getElem_toArray, List.getElem_cons_zero, List.getElem_cons_succ, Act.put, List.setIfInBounds_toArray, List.set_cons_zero, List.set_cons_succ]
          refine wpAnyH_ready (rs := [6]) (by kernel_rfl) (by simp) ?_
          refine AllReadyH.cons rfl (fun K hK => ?_) AllReadyH.nil
          rw [if_pos (by kernel_rfl)]
          simp only [List.getElem_toArray, List.getElem_cons_zero, List.getElem_cons_succ]
          go_simp
          refine (decimal15n _ _ _ (ha 13 (by decide)) e13).mono ?_
          rintro e w5 ⟨rfl, rfl⟩
          refine hK.out _ _ (HS) (fun HS => ?_)
          clear hK
          try simp only [List.getElem_toArray, List.getElem_cons_zero, List.getElem_cons_succ, Act.put, List.setIfInBounds_toArray, List.set_cons_zero, List.set_cons_succ]
          refine wpAnyH_take (i := 7) (v := ?_) rfl (by kernel_rfl) (by kernel_rfl) (by kernel_rfl) (fun _ _ _ h => h) (Or.inl ⟨by go_simp, ?hy⟩) HS ?_
          case hy => intro W hW; go_simp; (try with_reducible rfl)
          try simp only [List.getElem_toArray, List.getElem_cons_zero, List.getElem_cons_succ, Act.put, List.setIfInBounds_toArray, List.set_cons_zero, List.set_cons_succ]
          refine wpAnyH_take (i := 8) (v := ?_) rfl (by kernel_rfl) (by kernel_rfl) (by kernel_rfl) (fun _ _ _ h => h) (Or.inl ⟨by go_simp, ?hy⟩) HS ?_
          case hy => intro W hW; go_simp; (try with_reducible rfl)
          try simp only [List.getElem_toArray, List.getElem_cons_zero, List.getElem_cons_succ, Act.put, List.setIfInBounds_toArray, List.set_cons_zero, List.set_cons_succ]
          refine wpAnyH_ready (rs := [11]) (by kernel_rfl) (by simp) ?_
          refine AllReadyH.cons rfl (fun K hK => ?_) AllReadyH.nil
          rw [if_pos (by kernel_rfl)]
          simp only [List.getElem_toArray, List.getElem_cons_zero, List.getElem_cons_succ]
          go_simp
          refine (decimal15n _ _ _ (ha 14 (by decide)) e14).mono ?_
          rintro e w5 ⟨rfl, rfl⟩
          refine hK.out _ _ (HS) (fun HS => ?_)
          clear hK
          try simp only [List.getElem_toArray, List.getElem_cons_zero, List.getElem_cons_succ, Act.put, List.setIfInBounds_toArray, List.set_cons_zero, List.set_cons_succ]
          refine wpAnyH_take (i := 12) (v := ?_) rfl (by kernel_rfl) (by kernel_rfl) (by kernel_rfl) (fun _ _ _ h => h) (Or.inl ⟨by go_simp, ?hy⟩) HS ?_
          case hy => intro W hW; go_simp; (try with_reducible rfl)
          try simp only [List.getElem_toArray, List.getElem_cons_zero, List.getElem_cons_succ, Act.put, List.setIfInBounds_toArray, List.set_cons_zero, List.set_cons_succ]
          refine wpAnyH_take (i := 13) (v := ?_) rfl (by kernel_rfl) (by kernel_rfl) (by kernel_rfl) (fun _ _ _ h => h) (Or.inl ⟨by go_simp, ?hy⟩) HS ?_
          case hy => intro W hW; go_simp; (try with_reducible rfl)
          try simp only [List.getElem_toArray, List.getElem_cons_zero, List.getElem_cons_succ, Act.put, List.setIfInBounds_toArray, List.set_cons_zero, List.set_cons_succ]
          refine wpAnyH_ready (rs := [16]) (by kernel_rfl) (by simp) ?_
          refine AllReadyH.cons rfl (fun K hK => ?_) AllReadyH.nil
          rw [if_pos (by kernel_rfl)]
          simp only [List.getElem_toArray, List.getElem_cons_zero, List.getElem_cons_succ]
          go_simp
          refine (decimal15n _ _ _ (ha 15 (by decide)) e15).mono ?_
          rintro e w5 ⟨rfl, rfl⟩
          refine hK.out _ _ (HS) (fun HS => ?_)
          clear hK
          try simp only [List.getElem_toArray, List.getElem_cons_zero, List.getElem_cons_succ, Act.put, List.setIfInBounds_toArray, List.set_cons_zero, List.set_cons_succ]
          refine wpAnyH_take (i := 17) (v := ?_) rfl (by kernel_rfl) (by kernel_rfl) (by kernel_rfl) (fun _ _ _ h => h) (Or.inl ⟨by go_simp, ?hy⟩) HS ?_
          case hy => intro W hW; go_simp; (try with_reducible rfl)
          try simp only [List.getElem_toArray, List.getElem_cons_zero, List.getElem_cons_succ, Act.put, List.setIfInBounds_toArray, List.set_cons_zero, List.set_cons_succ]
          refine wpAnyH_take (i := 18) (v := .pointer (some ⟨A + 1 + 1, 6, none⟩)) rfl (by kernel_rfl) (by kernel_rfl) (by kernel_rfl) (fun _ _ _ h => h) (Or.inl ⟨by go_simp, fun W hW => by go_simp; (try omega)⟩) HS ?_
          try simp only [List.getElem_toArray, List.getElem_cons_zero, List.getElem_cons_succ, Act.put, List.setIfInBounds_toArray, List.set_cons_zero, List.set_cons_succ]
          refine wpAnyH_ready (rs := [19]) (by kernel_rfl) (by simp) ?_
          refine AllReadyH.cons rfl (fun K hK => ?_) AllReadyH.nil
          rw [if_pos (by kernel_rfl)]
          simp only [List.getElem_toArray, List.getElem_cons_zero, List.getElem_cons_succ]
          obtain ⟨v0, HV⟩ := HS
          have c3 := cell_blk HV.hg 6
          rw [strCells_get _ (by decide)] at c3
          have hz := frozen_blk HV.hg 6
          replace c3 : World.cell? _ ⟨A + 1 + 1, 6, none⟩ = _ := c3
          replace hz : World.frozen? _ ⟨A + 1 + 1, 6, none⟩ = _ := hz
          go_simp
          have hP := gT_put2 HV e12 e13 e14 e15
          rw [World.setCell_drew] at hP
          have HP := Lib.hid hP
          clear hP
          clear HV c3 hz
          refine hK.out _ _ HP.out.2 (fun HS2 => ?_)
          clear hK HS2
          refine wpAnyH_done (by kernel_rfl) ?_ _
          go_wp2_with fail
          go_meet
          case rel => exact ⟨rfl, HP.out.1⟩
      case rest =>
        obtain ⟨rfl, I⟩ := hcut
        have HI := Lib.hid I
        clear I
        obtain ⟨m, hm⟩ : ∃ m, manyC tl = m := ⟨_, rfl⟩
        rw [hm]
        have hm7 := many_le tl
        rw [hm] at hm7
        have HM := Lib.hid hm
        clear hm
        go_wp2_with fail
        go_loop [13, 15] (fun s i => ∃ k : Nat, k ≤ m ∧ i = .int .i64 k ∧ s = .string ⟨(allC a (bitB big) tl k).toArray⟩) (fun _ i => m - (intOf i).toNat)
        case atStart => exact ⟨0, by omega, rfl, rfl⟩
        case round =>
          obtain ⟨k, hk, rfl, rfl⟩ := hrel
          by_cases hlt : k < m
          · have hk8 : k < 8 := by omega
            have c3 := cell_blk HI.out.hg k
            rw [strCells_get _ hk8] at c3
            replace c3 : World.cell? _ ⟨A + 1 + 1, k, none⟩ = _ := c3
            have hl1 := allC_len (big := bitB big) (tail := tl) ha k
            have hl2 := piece_len (big := bitB big) (tail := tl) ha k
            have hst := allC_succ (a := a) (big := bitB big) (tail := tl) k
            have HST := Lib.hid hst
            clear hst
            obtain ⟨s, hs⟩ : ∃ s : ByteArray, (⟨(allC a (bitB big) tl k).toArray⟩ : ByteArray) = s := ⟨_, rfl⟩
            obtain ⟨p, hp⟩ : ∃ p : ByteArray, (⟨(pieceC a (bitB big) tl k).toArray⟩ : ByteArray) = p := ⟨_, rfl⟩
            have hs1 : s.size ≤ 200 := by rw [← hs]; simp [ByteArray.size]; omega
            have hp1 : p.size ≤ 15 := by rw [← hp]; simp [ByteArray.size]; omega
            rw [hs]
            rw [hp] at c3
            have HS := Lib.hid hs
            have HP := Lib.hid hp
            clear hs hp
            have n1 : ¬ (9223372036854775807 < s.size + 1) := by omega
            have n2 : ¬ (9223372036854775807 < s.size + 1 + p.size) := by omega
            have n3 : ¬ (9223372036854775807 < s.size + p.size) := by omega
            by_cases h0 : k = 0
            · have E0 : Hid (s ++ p = ⟨(allC a (bitB big) tl (k + 1)).toArray⟩) := Lib.hid (by rw [← HS.out, ← HP.out, HST.out, if_pos h0, h0]; apply ByteArray.ext; simp [allC_zero])
              have hk0 : ¬ ((0 : Int) < k) := by omega
              clear h0
              go_wp2_with fail
              go_round
              case rel => exact ⟨k + 1, by omega, by go_num, congrArg Value.string E0.out⟩
              case measure => simp [intOf]; omega
            · have E0 : Hid (s ++ { data := #[58] } ++ p = ⟨(allC a (bitB big) tl (k + 1)).toArray⟩) := Lib.hid (by rw [← HS.out, ← HP.out, HST.out, if_neg h0]; apply ByteArray.ext; simp)
              have hk0 : (0 : Int) < k := by omega
              go_wp2_with fail
              go_round
              case rel => exact ⟨k + 1, by omega, by go_num, congrArg Value.string E0.out⟩
              case measure => simp [intOf]; omega
          · have e : k = m := by omega
            subst e
            obtain ⟨s, hs⟩ : ∃ s : ByteArray, (⟨(allC a (bitB big) tl k).toArray⟩ : ByteArray) = s := ⟨_, rfl⟩
            rw [hs]
            have hl1 := allC_len (big := bitB big) (tail := tl) ha k
            have hs1 : s.size ≤ 200 := by rw [← hs]; simp [ByteArray.size]; omega
            have G1 : Hid (isL s.data.toList a = true) := Lib.hid (by rw [← hs, ← HM.out]; exact all_is ha)
            have G2 : Hid ((getL (s ++ { data := #[58] }).data.toList).isNone = true) := Lib.hid (by rw [← hs, ← HM.out]; simpa using all_colon ha)
            have G3 : Hid ((getL (({ data := #[58] } : ByteArray) ++ s).data.toList).isNone = true) := Lib.hid (by rw [← hs, ← HM.out]; simpa using colon_all ha)
            have G4 : Hid ((getL (s ++ { data := #[58, 58, 49] }).data.toList).isNone = true) := Lib.hid (by rw [← hs, ← HM.out]; simpa using all_more ha)
            have G5 : Hid ((getL (s ++ { data := #[32] }).data.toList).isNone = true) := Lib.hid (by rw [← hs, ← HM.out]; simpa using all_space)
            have n1 : ¬ (9223372036854775807 < s.size + 1) := by omega
            have n2 : ¬ (9223372036854775807 < 1 + s.size) := by omega
            have n3 : ¬ (9223372036854775807 < s.size + 3) := by omega
            clear hs
            have HSA : Hid ((Tryd.prog.info? 23).map (·.size) = some (adrCells a).size) := Lib.hid (by rw [adrCells_size]; kernel_rfl)
            go_wp2_with (refine wpList_load_row rfl 23 _ rfl A rfl 23 _ (0, 0) _ HI.out.ha Tryd.underlying23 rfl HSA.out ?_)
            refine (is13_lit s _ a _ HI.out.lay (by omega) ha rfl G1.out).mono ?_
            rintro e w1 ⟨rfl, b1⟩
            have I1 := Lib.hid (HI.out.step b1)
            clear b1 HI
            go_wp2_with fail
            refine (none16_lit _ _ I1.out.lay (by rw [size_catF]; show s.size + 1 < _; omega) G2.out).mono ?_
            rintro e w2 ⟨rfl, b2⟩
            have I2 := Lib.hid (I1.out.step b2)
            clear b2 I1
            go_wp2_with fail
            refine (none16_lit _ _ I2.out.lay (by rw [size_catF]; show 1 + s.size < _; omega) G3.out).mono ?_
            rintro e w3 ⟨rfl, b3⟩
            have I3 := Lib.hid (I2.out.step b3)
            clear b3 I2
            go_wp2_with fail
            refine (none16_lit _ _ I3.out.lay (by rw [size_catF]; show s.size + 3 < _; omega) G4.out).mono ?_
            rintro e w4 ⟨rfl, b4⟩
            have I4 := Lib.hid (I3.out.step b4)
            clear b4 I3
            go_wp2_with fail
            refine (none16_lit _ _ I4.out.lay (by rw [size_catF]; show s.size + 1 < _; omega) G5.out).mono ?_
            rintro e w5 ⟨rfl, b5⟩
            have I5 := Lib.hid (I4.out.step b5)
            clear b5 I4 G1 G2 G3 G4 G5 n1 n2 n3
            go_upto_if 124 with (fail)
            go_cut [9] (fun v wx => (∃ T : Nat, T ≤ k ∧ (tl = true → T ≤ 6) ∧ v = .int .i64 (T : Int)) ∧ wx = w5)
            case first =>
              have q1 : min ((f : Int) + u) (k : Int) = ((min (f + u) k : Nat) : Int) := by omega
              rw [q1]
              cases tl
              · go_wp2_with fail
                go_meet
                case rel => exact ⟨⟨_, by omega, by simp, rfl⟩, rfl⟩
              · go_wp2_with fail
                go_meet
                case rel => exact ⟨⟨min (min (f + u) k) 6, by omega, by omega, congrArg (Value.int .i64) (by omega)⟩, rfl⟩
            case rest =>
              obtain ⟨⟨T, hT1, hT2, rfl⟩, rfl⟩ := hcut
              have HT2 := Lib.hid hT2
              clear hT2
              by_cases hft : f < T
              · have q3 : ¬ ((T : Int) ≤ f) := by omega
                have h0 := I5.out.start
                have hg := I5.out.heap_new
                rw [← zeroAdr] at h0 hg
                have H0 := Lib.hid h0
                have HG := Lib.hid hg
                clear h0 hg
                go_wp2_with (first
                  | (refine wpList_load_row rfl 23 _ rfl A rfl 23 _ (0, 0) _ I5.out.ha Tryd.underlying23 rfl HSA.out ?_)
                  | (refine wpList_store_row rfl 23 _ _ rfl _ (adrCells a) rfl rfl 23 _ HG.out HSA.out ?hold (cells_one _ _ _) ?_))
                case hold => exact Eq.trans (by kernel_rfl) (adrCells_size _).symm
                obtain ⟨C, hC⟩ : ∃ C, C = wc.heap.size := ⟨_, rfl⟩
                rw [← hC] at H0 ⊢
                clear hC HG
                go_loopw [14, 17] (fun s i wr => ∃ r : Nat, r ≤ k ∧ i = .int .i64 r ∧ s = .string ⟨(cutC a (bitB big) tl f T r).toArray⟩ ∧ FC A C a (zeroC a f T r) (pieceC a (bitB big) tl) w wr) (fun _ i _ => k - (intOf i).toNat)
                case atStart => exact ⟨0, by omega, rfl, by rw [cutC_zero], by rw [zeroC_zero]; exact H0.out⟩
                case round =>
                  clear H0
                  obtain ⟨r, hr, rfl, rfl, I⟩ := hrel
                  by_cases hrk : r < k
                  · have hr8 : r < 8 := by omega
                    have c3 := cell_blk I.hg r
                    rw [strCells_get _ hr8] at c3
                    replace c3 : World.cell? _ ⟨A + 1 + 1, r, none⟩ = _ := c3
                    have c1 := cell_blk I.hc (2 * r)
                    rw [adrCells_get _ (by omega)] at c1
                    have c2 := cell_blk I.hc (2 * r + 1)
                    rw [adrCells_get _ (by omega)] at c2
                    have z1' := frozen_blk I.hc (2 * r)
                    have z2' := frozen_blk I.hc (2 * r + 1)
                    have o3 : ¬ ((16 : Int) ≤ 2 * r) := by omega
                    have o4 : ¬ ((16 : Int) ≤ 2 * r + 1) := by omega
                    have HI := Lib.hid I
                    clear I
                    have hl1 := cutC_len (big := bitB big) (tail := tl) ha f T (k := r) (by omega)
                    have hl2 := piece_len (big := bitB big) (tail := tl) ha r
                    obtain ⟨x, hx⟩ : ∃ x : ByteArray, (⟨(cutC a (bitB big) tl f T r).toArray⟩ : ByteArray) = x := ⟨_, rfl⟩
                    obtain ⟨p, hp⟩ : ∃ p : ByteArray, (⟨(pieceC a (bitB big) tl r).toArray⟩ : ByteArray) = p := ⟨_, rfl⟩
                    have hx1 : x.size ≤ 300 := by rw [← hx]; simp [ByteArray.size]; omega
                    have hp1 : p.size ≤ 15 := by rw [← hp]; simp [ByteArray.size]; omega
                    rw [hx]
                    rw [hp] at c3
                    have HX := Lib.hid hx
                    have HP := Lib.hid hp
                    clear hx hp hl1 hl2
                    have n1 : ¬ (9223372036854775807 < x.size + 1) := by omega
                    have n2 : ¬ (9223372036854775807 < x.size + 1 + p.size) := by omega
                    have n3 : ¬ (9223372036854775807 < x.size + p.size) := by omega
                    have n4 : ¬ (9223372036854775807 < x.size + 2) := by omega
                    by_cases hrf : r < f
                    · have t1 : ¬ ((f : Int) ≤ r) := by omega
                      have HZ := Lib.hid (HI.out.same (fun h => by omega))
                      clear HI
                      have t3 : ((r : Int) != T) = true := by rw [bne_iff_ne]; omega
                      have t4 : ((r : Int) == T) = false := by rw [beq_eq_false_iff_ne]; omega
                      by_cases h0 : r = 0
                      · have t2 : ¬ ((0 : Int) < r) := by omega
                        have E0 : Hid (x ++ p = ⟨(cutC a (bitB big) tl f T (r + 1)).toArray⟩) := Lib.hid (by rw [← HX.out, ← HP.out, cutC_head hrf hft, if_pos h0, h0]; apply ByteArray.ext; simp [cutC_zero])
                        clear h0
                        go_wp2_with fail
                        go_roundw
                        case rel => exact ⟨r + 1, by omega, by go_num, congrArg Value.string E0.out, HZ.out⟩
                        case measure => simp [intOf]; omega
                      · have t2 : (0 : Int) < r := by omega
                        have E0 : Hid (x ++ { data := #[58] } ++ p = ⟨(cutC a (bitB big) tl f T (r + 1)).toArray⟩) := Lib.hid (by rw [← HX.out, ← HP.out, cutC_head hrf hft, if_neg h0]; apply ByteArray.ext; simp)
                        go_wp2_with fail
                        go_roundw
                        case rel => exact ⟨r + 1, by omega, by go_num, congrArg Value.string E0.out, HZ.out⟩
                        case measure => simp [intOf]; omega
                    · have t1 : (f : Int) ≤ r := by omega
                      by_cases hrT : r < T
                      · have t2 : (r : Int) < T := by omega
                        have HZ := Lib.hid (HI.out.zero (by omega) hrT hr8)
                        clear HI
                        by_cases hff : r = f
                        · have t3 : ((r : Int) == f) = true := by rw [beq_iff_eq]; omega
                          have E0 : Hid (x ++ { data := #[58, 58] } = ⟨(cutC a (bitB big) tl f T (r + 1)).toArray⟩) := Lib.hid (by rw [← HX.out, hff, cutC_colons hft]; apply ByteArray.ext; simp)
                          clear hff
                          go_wp2_with fail
                          go_roundw
                          case rel => exact ⟨r + 1, by omega, by go_num, congrArg Value.string E0.out, HZ.out⟩
                          case measure => simp [intOf]; omega
                        · have t3 : ((r : Int) == f) = false := by rw [beq_eq_false_iff_ne]; omega
                          have E0 : Hid (x = ⟨(cutC a (bitB big) tl f T (r + 1)).toArray⟩) := Lib.hid (by rw [← HX.out, cutC_mid (by omega) hrT])
                          go_wp2_with fail
                          go_roundw
                          case rel => exact ⟨r + 1, by omega, by go_num, congrArg Value.string E0.out, HZ.out⟩
                          case measure => simp [intOf]; omega
                      · have t2 : ¬ ((r : Int) < T) := by omega
                        have t5 : (0 : Int) < r := by omega
                        have HZ := Lib.hid (HI.out.same (fun h => hrT h.2))
                        clear HI
                        by_cases hTT : r = T
                        · have t3 : ((r : Int) != T) = false := by rw [bne_eq_false_iff_eq]; omega
                          have t4 : ((r : Int) == T) = true := by rw [beq_iff_eq]; omega
                          have E0 : Hid (x ++ p = ⟨(cutC a (bitB big) tl f T (r + 1)).toArray⟩) := Lib.hid (by rw [← HX.out, ← HP.out, cutC_tail hft (by omega), if_pos hTT]; apply ByteArray.ext; simp)
                          clear hTT
                          go_wp2_with fail
                          go_roundw
                          case rel => exact ⟨r + 1, by omega, by go_num, congrArg Value.string E0.out, HZ.out⟩
                          case measure => simp [intOf]; omega
                        · have t3 : ((r : Int) != T) = true := by rw [bne_iff_ne]; omega
                          have t4 : ((r : Int) == T) = false := by rw [beq_eq_false_iff_ne]; omega
                          have E0 : Hid (x ++ { data := #[58] } ++ p = ⟨(cutC a (bitB big) tl f T (r + 1)).toArray⟩) := Lib.hid (by rw [← HX.out, ← HP.out, cutC_tail hft (by omega), if_neg hTT]; apply ByteArray.ext; simp)
                          go_wp2_with fail
                          go_roundw
                          case rel => exact ⟨r + 1, by omega, by go_num, congrArg Value.string E0.out, HZ.out⟩
                          case measure => simp [intOf]; omega
                  · have e : r = k := by omega
                    subst e
                    have HI := Lib.hid I
                    clear I
                    obtain ⟨x, hx⟩ : ∃ x : ByteArray, (⟨(cutC a (bitB big) tl f T r).toArray⟩ : ByteArray) = x := ⟨_, rfl⟩
                    have hl1 := cutC_len (big := bitB big) (tail := tl) ha f T (k := r) (by omega)
                    have hx1 : x.size ≤ 300 := by rw [← hx]; simp [ByteArray.size]; omega
                    have G1 : Hid (isL x.data.toList (zeroC a f T r) = true) := Lib.hid (by rw [← hx]; have := cut_is (big := bitB big) ha hft (by rw [HM.out]; exact hT1) HT2.out; rw [HM.out] at this; exact this)
                    rw [hx]
                    clear hx hl1
                    have hzl := zeroC_lt ha f T r
                    have HSC : Hid ((Tryd.prog.info? 23).map (·.size) = some (adrCells (zeroC a f T r)).size) := Lib.hid (by rw [adrCells_size]; kernel_rfl)
                    go_wp2_with (refine wpList_load_row rfl 23 _ rfl C rfl 23 _ (0, 0) _ HI.out.hc Tryd.underlying23 rfl HSC.out ?_)
                    refine (is13_lit x _ (zeroC a f T r) _ HI.out.lay (by omega) hzl rfl G1.out).mono ?_
                    rintro e w6 ⟨rfl, b6⟩
                    have I6 := Lib.hid (HI.out.step b6)
                    clear b6 HI
                    go_wp2_with fail
                    refine (lives10 _ I6.out.lay).mono ?_
                    rintro e w7 ⟨rfl, b7⟩
                    have HB := Lib.hid (I6.out.step b7).below
                    clear b7 I6
                    go_wp2_with fail
                    go_ret
                    rw [← NA.out]
                    exact ⟨rfl, HB.out⟩
              · have q3 : (T : Int) ≤ f := by omega
                go_wp2_with fail
                refine (lives10 _ I5.out.lay).mono ?_
                rintro e w6 ⟨rfl, b6⟩
                have HB := Lib.hid (I5.out.step b6).below
                clear b6
                go_wp2_with fail
                go_ret
                rw [← NA.out]
                exact ⟨rfl, HB.out⟩
end Go.Proofs.YtepoaapadalnoaaDoor
