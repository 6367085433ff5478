/- The walk of List: the entries of a list of prefixes, in order. No condition but that the numbers fit. -/
import Derived.Test.YtkhbchgocilclaaSortW
import Derived.Test.YtkhbchgocilclaaTell
import Derived.OwnWalk
namespace Go.Proofs.Ytkhbchgocilclaa
open Go.RowKit Go.Sort Go.Shelf Go.Lib
set_option linter.unusedVariables false

def keyOfP (p : Nat → Nat) (n : Nat) : PKey := ⟨keyBytesOf p n, by simp [keyBytesOf]⟩
theorem enc_key (T : List UInt8 → Nat) {p : Nat → Nat} {n : Nat} (hp : ∀ i, i < 16 → p i < 256) (hn : n < 256) : encK T (keyOfP p n) = preL p n ++ [.int .u64 (T (keyBytesOf p n) : Int)] := by
  have e : (keyBytesOf p n).map (fun b => Value.int .u8 (b.toNat : Int)) = preL p n := by
    unfold keyBytesOf preL adrL
    rw [List.map_append, List.map_map]
    congr 1
    · refine List.map_congr_left fun i hi => ?_
      have := hp i (by simpa using hi)
      simp [Nat.mod_eq_of_lt this]
    · simp [Nat.mod_eq_of_lt hn]
  show (keyBytesOf p n).map _ ++ _ = _
  rw [e]; rfl
theorem built44 (a : Nat → Nat) (n t : Nat) : Try.prog.built 44 [(0, .agg (preL a n).toArray), (1, .int .u64 (t : Int))] = some (preL a n ++ [Value.int .u64 (t : Int)]).toArray := by kernel_rfl
theorem info44 : (Try.prog.info? 44).map (fun i => (i.zero, i.size, i.bytes)) = some (some (.agg (preCells (fun _ => 0) 0 ++ #[.int .u64 0])), 18, 32) := by kernel_rfl
def untilAt (D : PD) (bs : List UInt8) : Nat := timeOf (D.atKey (.string bs) .nil)

structure ListInv (b mb r : Nat) (D : PD) (left : Lit → Bool) (cnt : Nat) (ks : List PKey) (v : Value) (w wr : World) : Prop where
  rg : wr.ranges Try.prog 25 (plainElem Try.prog 34) mb r (Maps.size D) D left cnt
  own : wr.ownsRow w.heap.size 44 18 v ks.length (ks.flatMap (encK (untilAt D)))
  all : ∀ kl, Maps.has D kl = true → left kl = false → ∃ k ∈ ks, kl = .string k.1
  old : ∀ k ∈ ks, Maps.has D (.string k.1) = true ∧ left (.string k.1) = false
  nodup : ks.Nodup
  le : ∀ kl, left kl = true → Maps.has D kl = true
  len : ks.length + cnt ≤ Maps.size D
  nil : ks = [] → v = .slice none 0 0
  below : Below w.heap.size w wr
  rlt : w.heap.size ≤ r

theorem ListInv.sep {b mb r : Nat} {D : PD} {left : Lit → Bool} {cnt : Nat} {ks : List PKey} {v : Value} {w wr : World} (I : ListInv b mb r D left cnt ks v w wr) : v.ownBlock ≠ some r := by
  intro e
  rcases I.own.2 with ⟨h, _⟩ | ⟨g, cap, cur, h, _, hg, _⟩
  · rw [h] at e; cases e
  · rw [h] at e
    have e' : g = r := by injection e
    obtain ⟨es, clock, since, seen, c0, _, _, _, _, hr, _⟩ := I.rg
    rw [e', hr] at hg; injection hg with x; cases x
theorem ListInv.own_ge {b mb r : Nat} {D : PD} {left : Lit → Bool} {cnt : Nat} {ks : List PKey} {v : Value} {w wr : World} (I : ListInv b mb r D left cnt ks v w wr) (k : Nat) (hk : v.ownBlock = some k) : w.heap.size ≤ k := by
  rcases I.own.2 with ⟨h, _⟩ | ⟨g, cap, cur, h, hg, _⟩
  · rw [h] at hk; cases hk
  · rw [h] at hk
    have e' : g = k := by injection hk
    omega
theorem ListInv.sepm {b mb r : Nat} {D : PD} {left : Lit → Bool} {cnt : Nat} {ks : List PKey} {v : Value} {w wr : World} (I : ListInv b mb r D left cnt ks v w wr) (hm : mb < w.heap.size) : v.ownBlock ≠ some mb := fun e => by
  have := I.own_ge mb e; omega
theorem own_kept {w w' : World} {B n : Nat} {v : Value} {xs : List Value} (h : w.ownsRow B 44 18 v n xs) (hb : ∀ k o, w.heap[k]? = some o → v.ownBlock = some k → w'.heap[k]? = some o) : w'.ownsRow B 44 18 v n xs := by
  refine ⟨h.1, ?_⟩
  rcases h.2 with h1 | ⟨g, cap, cur, h1, h2, h3, h4⟩
  · exact .inl h1
  · exact .inr ⟨g, cap, cur, h1, h2, hb g _ h3 (by rw [h1]; rfl), h4⟩

theorem lay44 (p : Nat → Nat) (n tm : Nat) : (List.foldl (fun (cs : Array Value) (x : Value × Nat) => cs.setIfInBounds x.2 x.1) #[.int .u8 0, .int .u8 0, .int .u8 0, .int .u8 0, .int .u8 0, .int .u8 0, .int .u8 0, .int .u8 0, .int .u8 0, .int .u8 0, .int .u8 0, .int .u8 0, .int .u8 0, .int .u8 0, .int .u8 0, .int .u8 0, .int .u8 0, .int .u64 0] (preL p n ++ [Value.int .u64 (tm : Int)]).zipIdx) = (preL p n ++ [Value.int .u64 (tm : Int)]).toArray := by kernel_rfl
theorem news44 {w6 : World} {m : Nat} (hm : w6.heap.size = m) (p : Nat → Nat) (n tm : Nat) : ∀ (j : Nat) (u : Value), (preL p n ++ [Value.int .u64 (tm : Int)])[j]? = some u →
    (w6.alloc (.cells (List.foldl (fun (cs : Array Value) (x : Value × Nat) => cs.setIfInBounds x.2 x.1) #[.int .u8 0, .int .u8 0, .int .u8 0, .int .u8 0, .int .u8 0, .int .u8 0, .int .u8 0, .int .u8 0, .int .u8 0, .int .u8 0, .int .u8 0, .int .u8 0, .int .u8 0, .int .u8 0, .int .u8 0, .int .u8 0, .int .u8 0, .int .u64 0] (preL p n ++ [Value.int .u64 (tm : Int)]).zipIdx) 44)).cell? ((⟨m, 0, none⟩ : Addr).add j) = some u := fun j u hj => by
  rw [lay44, Addr.add_mid, Nat.zero_add]
  have := cell_blk (heap_alloc_new w6 (.cells (preL p n ++ [Value.int .u64 (tm : Int)]).toArray 44)) j
  rw [← hm, this]
  simpa using hj
theorem ent_one (p : Nat → Nat) (n tm : Nat) : ∀ v ∈ preL p n ++ [Value.int .u64 (tm : Int)], v.oneCell' = true := fun v hv => by
  rcases List.mem_append.1 hv with h | h
  · exact preL_one _ _ v h
  · rw [List.mem_singleton] at h; subst h; rfl

/-- what List hands out: the keys of the map, rising, each with its time -/
structure Listed (D : PD) (w w' : World) (v : Value) (ks : List PKey) : Prop where
  val : (ks = [] ∧ v = .slice none 0 0) ∨ ∃ g, v = .slice (some ⟨g, 0, none⟩) ks.length ks.length ∧ w.heap.size ≤ g ∧ g < w'.heap.size ∧
    ∀ (i c : Nat) (k : PKey) (x : Value), ks[i]? = some k → (encK (untilAt D) k)[c]? = some x → w'.cell? ⟨g, i * 18 + c, none⟩ = some x ∧ w'.frozen? ⟨g, i * 18 + c, none⟩ = false
  up : ∀ (i j : Nat) (x y : PKey), i < j → ks[i]? = some x → ks[j]? = some y → numK x < numK y
  all : ∀ kl, Maps.has D kl = true → ∃ k ∈ ks, kl = .string k.1
  old : ∀ k ∈ ks, Maps.has D (.string k.1) = true
  len : ks.length ≤ 8
  below : Below w.heap.size w w'

set_option maxRecDepth 100000 in
set_option maxHeartbeats 2000000 in
theorem list_any (b mb : Nat) (D : PD) (w : World) (h : w.heap[b]? = some (.cells #[.map (some mb)] 58 (0, 0))) (hm : MapIs w mb D) (hD : LOk D) :
    Calls Try.prog 13 #[.pointer (some ⟨b, 0, none⟩)] w fun e w' => ∃ v ks, e = .returned v ∧ Listed D w w' v ks := by
  have hblt := lt_of_blk h
  have hmlt := hm.lt
  go_enter Try.func13, Try.ntmps13
  go_wp2_with fail
  refine (there_any b mb _ h).mono ?_
  rintro e w3 ⟨rfl, rfl⟩
  have cb : w.cell? ⟨b, 0, none⟩ = some (.map (some mb)) := cell_blk h 0
  go_wp2_with (at_range; refine wpList_range_own _ rfl _ 56 rfl 25 34 keyed Try.underlying56 _ mb _ _ rfl hm ?_; intro w4 rg4 gr4 sz4)
  have I0 : ListInv b mb w.heap.size D (Maps.has D) (Maps.size D) [] (.slice none 0 0) w w4 :=
    ⟨rg4, World.ownsRow_nil _ _ _ _, fun kl h1 h2 => (by rw [h1] at h2; cases h2), (fun k hk => by cases hk), List.nodup_nil, fun _ h => h, by simp, fun _ => rfl,
      ⟨gr4.os, gr4.tape, gr4.output, gr4.size, fun k hk => gr4.block k hk (by simp)⟩, Nat.le_refl _⟩
  clear rg4 gr4 sz4 cb
  obtain ⟨r, hr⟩ : ∃ r, r = w.heap.size := ⟨_, rfl⟩
  rw [← hr] at I0 ⊢
  clear hr
  go_frame
  go_loopw [2] (fun v wr => ∃ (left : Lit → Bool) (cnt : Nat) (ks : List PKey), ListInv b mb r D left cnt ks v w wr) (fun _ wr => wr.rangeLeft mb r)
  case atStart => exact ⟨_, _, _, I0⟩
  case round =>
    clear I0
    obtain ⟨left, cnt, ks, I⟩ := hrel
    go_wp2_with (at_next; refine wpList_next_ranges _ rfl _ rfl 25 keyed (plainElem Try.prog 34) (fun v : Value => v) (Value.int .u64) (fun key _ _ => ⟨key, rfl⟩) (fun v y hv => by obtain ⟨c, rfl, _⟩ := plainElem_int_inv Try.underlying34 hv; exact ⟨c, rfl⟩) mb r _ D left cnt rfl I.rg ?_ ?_)
    · intro _ hl0
      have hall : ∀ kl, Maps.has D kl = true → ∃ k ∈ ks, kl = .string k.1 := fun kl h => I.all kl h (hl0 kl)
      have hlen : ks.length ≤ 8 := by have := I.len; have := hD.size; omega
      by_cases hks : ks = []
      · have hv := I.nil hks
        subst hks hv
        have HS := Lib.hid (fun W => AnyF.slices_SortFunc_none (P := Try.prog) (ρ := Try.sortE_ren) Try.sortE none 0 (.func (.func 25) #[] #[]) W)
        have HI := Lib.hid I; have HA := Lib.hid hall
        clear I hall hlen
        go_wp2_with fail
        refine (HS.out wr).mono ?_
        rintro e w6 ⟨rfl, rfl⟩
        go_wp2_with fail
        refine (clip_any none 0 0 _ (fun _ => ⟨rfl, rfl⟩) (Nat.le_refl _) (by decide)).mono ?_
        rintro e w7 ⟨rfl, rfl⟩
        go_wp2_with fail
        go_ret
        exact ⟨_, [], rfl, .inl ⟨rfl, rfl⟩, fun i j x y _ h => by simp at h, HA.out, (fun k hk => by cases hk), Nat.zero_le _, HI.out.below⟩
      · have hpos : 0 < ks.length := List.length_pos_iff.2 hks
        obtain ⟨g, cap, hv, hg, hcap, hmax⟩ : ∃ g cap, u2 = .slice (some ⟨g, 0, none⟩) ks.length cap ∧ w.heap.size ≤ g ∧ ks.length ≤ cap ∧ cap ≤ maxLen := by
          rcases I.own.2 with ⟨_, h0⟩ | ⟨g, cap, cur, h1, h2, h3, h4, h5, h6⟩
          · omega
          · exact ⟨g, cap, h1, h2, h4, h5⟩
        subst hv
        have HI := Lib.hid I; have HA := Lib.hid hall; have HL := Lib.hid hlen; have HM := Lib.hid hmax; have HC := Lib.hid hcap
        clear I hall hlen hmax hcap hpos
        go_wp2_with fail
        refine (sort_any (untilAt D) ks g cap w.heap.size wr HI.out.own (by have := HL.out; omega)).mono ?_
        rintro e w6 ⟨rfl, ks', S⟩
        have HS := Lib.hid S; clear S
        go_wp2_with fail
        refine (clip_any (some ⟨g, 0, none⟩) ks.length cap _ (fun h => by cases h) HC.out (by have := HM.out; unfold maxLen at this; omega)).mono ?_
        rintro e w7 ⟨rfl, rfl⟩
        go_wp2_with fail
        go_ret
        have S := HS.out
        have I := HI.out
        have hl : ks'.length = ks.length := S.perm.length_eq
        have hnd : ks'.Nodup := S.perm.nodup_iff.2 I.nodup
        have hglt : g < wr.heap.size := (holds_of_own I.own).2
        refine ⟨.slice (some ⟨g, 0, none⟩) ks.length ks.length, ks', rfl, .inr ⟨g, by rw [hl], hg, by have := S.grown.size; omega, S.holds⟩, fun i j x y hij hx hy => ?_, fun kl h => ?_, fun k hk => (I.old k (S.perm.mem_iff.1 hk)).1, by rw [hl]; exact HL.out, ?_⟩
        · have h1 := S.up i j x y hij hx hy
          refine Nat.lt_of_le_of_ne h1 (fun e => ?_)
          have e2 := numK_inj e
          subst e2
          obtain ⟨hi, q1⟩ := (List.getElem?_eq_some_iff.1 hx)
          obtain ⟨hj, q2⟩ := (List.getElem?_eq_some_iff.1 hy)
          exact List.pairwise_iff_getElem.1 hnd i j hi hj hij (q1.trans q2.symm)
        · obtain ⟨k, hk, e⟩ := HA.out kl h
          exact ⟨k, S.perm.mem_iff.2 hk, e⟩
        · exact I.below.grown S.grown I.below.size (fun k hk => by injection hk with e; rw [← e]; exact hg)
    · intro x c kl y yp w5 cnt5 hkey hlk hv hat rg5 hlt5 gr5 sz5 hen
      obtain ⟨p, n, hp, hn, rfl, hms⟩ := hD.keys kl (I.le kl hlk)
      have hx : x = .agg (preCells p n) := keyed.inj hkey (keyOf_pre p n hp (by omega))
      subst hx
      obtain ⟨c', hc', hyd, hwf⟩ := plainElem_int_inv Try.underlying34 hv
      injection hc' with _ hc'
      subst hc'
      obtain ⟨hc0', hc1⟩ := bounds_u64 hwf
      obtain ⟨tm, rfl⟩ := Int.eq_ofNat_of_zero_le hc0'
      have y1 : (y, yp) = (DataW.lit (Lit.int .u64 (tm : Int)), []) := hyd
      have hy : y = DataW.lit (Lit.int .u64 (tm : Int)) := congrArg Prod.fst y1
      have htm : untilAt D (keyBytesOf p n) = tm := by
        show timeOf (D.atKey (keyLit p n) .nil) = tm
        rw [hat .nil]
        show timeOf y = tm
        rw [hy]; rfl
      have hhas : Maps.has D (keyLit p n) = true := I.le _ hlk
      have hnot : keyOfP p n ∉ ks := fun hk => by have := (I.old _ hk).2; rw [show (.string (keyOfP p n).1 : Lit) = keyLit p n from rfl, hlk] at this; cases this
      have henc := enc_key (untilAt D) hp (show n < 256 by omega)
      rw [htm] at henc
      clear hyd y1 hy hat hwf hv hc0' hc1
      have own5 := own_kept (w' := w5) I.own (fun k o hk he => (gr5.block k (lt_of_blk hk) (fun e => I.sep (by rw [he]; exact e))).trans hk)
      have B5 : Below w.heap.size w w5 := I.below.grown gr5 I.below.size (fun k hk => by injection hk with e; rw [← e]; exact I.rlt)
      have t6 := Turned.setRow (heap_alloc_new w5 (.cells (preCells (fun _ => 0) 0) 25)) (preL p n).toArray
      have hnew := heap_alloc_new w5 (.cells (preCells (fun _ => 0) 0) 25)
      rw [← zeroPre] at t6 hnew
      have B6 : Below w5.heap.size w5 ((w5.alloc (.cells #[.int .u8 0, .int .u8 0, .int .u8 0, .int .u8 0, .int .u8 0, .int .u8 0, .int .u8 0, .int .u8 0, .int .u8 0, .int .u8 0, .int .u8 0, .int .u8 0, .int .u8 0, .int .u8 0, .int .u8 0, .int .u8 0, .int .u8 0] 25)).setRow w5.heap.size (preL p n).toArray) := ((Below.refl _ _).alloc (Nat.le_refl _) _).trans (t6.below (Nat.le_refl _))
      have hn6 := t6.get (by simp)
      have rg6 := rg5.kept (w' := ((w5.alloc (.cells #[.int .u8 0, .int .u8 0, .int .u8 0, .int .u8 0, .int .u8 0, .int .u8 0, .int .u8 0, .int .u8 0, .int .u8 0, .int .u8 0, .int .u8 0, .int .u8 0, .int .u8 0, .int .u8 0, .int .u8 0, .int .u8 0, .int .u8 0] 25)).setRow w5.heap.size (preL p n).toArray)) (row := none) ⟨B6.os, B6.tape, B6.output, B6.size, fun k hk _ => B6.block k hk⟩ (by simp) (by simp)
      have own6 := own_kept (w' := ((w5.alloc (.cells #[.int .u8 0, .int .u8 0, .int .u8 0, .int .u8 0, .int .u8 0, .int .u8 0, .int .u8 0, .int .u8 0, .int .u8 0, .int .u8 0, .int .u8 0, .int .u8 0, .int .u8 0, .int .u8 0, .int .u8 0, .int .u8 0, .int .u8 0] 25)).setRow w5.heap.size (preL p n).toArray)) own5 (fun k o hk _ => (B6.block k (lt_of_blk hk)).trans hk)
      have hB5 := B5.size
      have BW6 := B5.trans (B6.mono B5.size)
      have hsz : 17 = (preL p n).toArray.size := by simp [preL_length]
      have RP := Lib.hid (range_preL hn6)
      have HS := Lib.hid hsz; have HN := Lib.hid hnew; have HR6 := Lib.hid rg6; have HO6 := Lib.hid own6; have HB6 := Lib.hid BW6; have HE := Lib.hid henc; have HI := Lib.hid I
      clear hsz hnew hn6 rg6 own6 BW6 own5 B5 B6 t6 gr5 sz5 rg5 henc I
      have hlen := HI.out.len
      have hs8 := hD.size
      have hz6 : ((w5.alloc (.cells #[.int .u8 0, .int .u8 0, .int .u8 0, .int .u8 0, .int .u8 0, .int .u8 0, .int .u8 0, .int .u8 0, .int .u8 0, .int .u8 0, .int .u8 0, .int .u8 0, .int .u8 0, .int .u8 0, .int .u8 0, .int .u8 0, .int .u8 0] 25)).setRow w5.heap.size (preL p n).toArray).heap.size = w5.heap.size + 1 := by simp [World.setRow]
      have hwb : w.heap.size ≤ w5.heap.size := hB5
      have HZ := Lib.hid hz6; have HW := Lib.hid hwb; have HLN := Lib.hid (show ks.length + 1 ≤ 8 by omega)
      clear hz6 hwb hlen hs8 hB5
      obtain ⟨i44, hi44, hz0, hz1, hz2⟩ := info_parts info44
      have hpl := preL_length p n
      go_wp2_with (first | (at_builtin; refine wpList_append_own _ rfl _ _ 41 rfl w.heap.size 44 i44 _ 18 32 Try.underlying41 hi44 hz0 hz1 hz2 rfl (by decide) _ ks.length _ rfl (own_kept HO6.out (fun k o hk _ => (((Below.refl _ _).alloc (Nat.le_refl _) _).block k (lt_of_blk hk)).trans hk)) ⟨w5.heap.size + 1, 0, none⟩ 1 1 (preL p n ++ [Value.int .u64 (tm : Int)]) rfl (by simp [preL_length]) (news44 HZ.out p n tm) (ent_one p n tm) (by have := HLN.out; unfold maxLen; omega) (by have := HLN.out; omega) (by have := HW.out; simp; omega) ?_; intro v' w8 hown8 hgr8 hnil8) | (refine wpList_store_row rfl 25 _ _ rfl w5.heap.size (preL p n).toArray rfl rfl 25 _ HN.out (by rw [← HS.out]; kernel_rfl) HS.out (all_oneCell_toArray (preL_one _ _)) ?_) | (refine wpList_load_mid rfl 25 _ rfl w5.heap.size 0 rfl (preL p n) _ RP.out Try.underlying25 rfl (info25 _ _) ?_) | (refine wpList_build2 rfl 44 0 1 _ _ rfl (.agg (preL p n).toArray) (.int .u64 (tm : Int)) rfl rfl (preL p n ++ [Value.int .u64 (tm : Int)]).toArray (built44 p n tm) ?_))
      case roundEnd =>
        have hg8 : World.grownBy _ w8 u2.ownBlock := hgr8
        clear hgr8 hnil8
        have I := HI.out
        have b7 := fun (o : Obj) => (Below.refl ((w5.alloc (.cells #[.int .u8 0, .int .u8 0, .int .u8 0, .int .u8 0, .int .u8 0, .int .u8 0, .int .u8 0, .int .u8 0, .int .u8 0, .int .u8 0, .int .u8 0, .int .u8 0, .int .u8 0, .int .u8 0, .int .u8 0, .int .u8 0, .int .u8 0] 25)).setRow w5.heap.size (preL p n).toArray).heap.size ((w5.alloc (.cells #[.int .u8 0, .int .u8 0, .int .u8 0, .int .u8 0, .int .u8 0, .int .u8 0, .int .u8 0, .int .u8 0, .int .u8 0, .int .u8 0, .int .u8 0, .int .u8 0, .int .u8 0, .int .u8 0, .int .u8 0, .int .u8 0, .int .u8 0] 25)).setRow w5.heap.size (preL p n).toArray)).alloc (Nat.le_refl _) o
        have rg7 := fun (o : Obj) => HR6.out.kept (row := none) ⟨(b7 o).os, (b7 o).tape, (b7 o).output, (b7 o).size, fun k hk _ => (b7 o).block k hk⟩ (by simp) (by simp)
        have rg8 := (rg7 _).kept (row := u2.ownBlock) hg8 (I.sepm hmlt).symm I.sep.symm
        have BW7 := fun (o : Obj) => HB6.out.trans ((b7 o).mono HB6.out.size)
        have BW8 := (BW7 _).grown hg8 (BW7 _).size (fun k hk => I.own_ge k hk)
        have I8 : ListInv b mb r D (fun z => left z && !z.sameKey (keyLit p n)) cnt5 (ks ++ [keyOfP p n]) v' w w8 := by
          refine ⟨rg8, ?_, fun kl h1 h2 => ?_, fun k hk => ?_, ?_, fun kl hl => I.le kl (by simp at hl; exact hl.1), ?_, fun e => by simp at e, BW8, I.rlt⟩
          · rw [List.length_append, List.flatMap_append]
            have e : [keyOfP p n].flatMap (encK (untilAt D)) = preL p n ++ [Value.int .u64 (tm : Int)] := by simp [HE.out]
            rw [e]; exact hown8
          · by_cases e : kl = keyLit p n
            · exact ⟨keyOfP p n, by simp, e⟩
            · rw [Maps.sameKey_ne e] at h2
              obtain ⟨k, hk, e2⟩ := I.all kl h1 (by simpa using h2)
              exact ⟨k, by simp [hk], e2⟩
          · rcases List.mem_append.1 hk with h1 | h1
            · exact ⟨(I.old k h1).1, by rw [(I.old k h1).2]; rfl⟩
            · rw [List.mem_singleton] at h1
              subst h1
              exact ⟨hhas, by show (left (keyLit p n) && !(keyLit p n).sameKey (keyLit p n)) = false; rw [WideAt.sameKey_self (key_isKey _ _)]; simp⟩
          · exact List.nodup_append.2 ⟨I.nodup, by simp, fun a ha b hb => by rw [List.mem_singleton] at hb; subst hb; intro e; exact hnot (e ▸ ha)⟩
          · rw [List.length_append]; have := I.len; simp; omega
        have HLE := rg8.left_eq; have HLC := I.rg.left_eq
        exact ⟨⟨_, _, _, I8⟩, by rw [HLE, HLC]; exact hlt5⟩
end Go.Proofs.Ytkhbchgocilclaa
