/- Several texts in one: LB, LC, LD, LE. No condition beyond those that each part names. -/
import Derived.Test.YtjldcblklbikaaaLA
/- FragsPlay: the two calls of Add, each with its results put away: the walks. No condition beyond those named. (Written out by exp.py.) -/
namespace Go.Proofs.Ytjldcblklbikaaa
open Go.RowKit
set_option linter.unusedVariables false
set_option linter.unusedSimpArgs false
/-- what the call of Add leaves, its packet in a box -/
structure AddBox (pb : Nat) (rv : Value) (D : List Dg) (now : Nat) (x : Pk) (w : World) (g : Nat) (rv' : Value) (D' : List Dg) (out : Option Pk) (dr : Bool) (w' : World) : Prop where
  mem : AddMem pb rv D w w' rv' D'
  add : AddS now x (D.map Dg.abs) (D'.map Dg.abs) out dr
  fresh : w.heap.size ≤ g
  box : ∃ L : List Value, w'.heap[g]? = some (.cells L.toArray 43 (0, 0)) ∧ (out = none → L = zeroP) ∧ ∀ y, out = some y → ∃ A c, L = pkL y A c ∧ PkOk y ∧ BodyAt w' ⟨y, A, c⟩ ∧ (∀ k, A = some ⟨k, 0, none⟩ → w.heap.size ≤ k ∧ ¬ bods D' k) ∧ y.body.length ≤ 100000000
theorem add_len {L : List Value} {out : Option Pk} {w' : World} {Q : Pk → Option Addr → Nat → Prop} (hz : out = none → L = zeroP) (hy : ∀ y, out = some y → ∃ A c, L = pkL y A c ∧ PkOk y ∧ Q y A c) : L.length = 40 ∧ ∀ v ∈ L, v.oneCell' = true := by
  cases out with
  | none => rw [hz rfl]; exact ⟨zeroP_length, zeroP_one⟩
  | some y =>
    obtain ⟨A, c, e, ok, _⟩ := hy y rfl
    have h : PkAt L y A c := ⟨e, ok⟩
    exact ⟨h.len, h.one⟩
/-- the box made behind the call -/
theorem addbox_a {pb now : Nat} {x : Pk} {rv rv' : Value} {D D' : List Dg} {w w0 w1 : World} {out : Option Pk} {dr : Bool} {L : List Value} {Z : Array Value} (hw : Below w.heap.size w w0) (hP : PoolAt w pb rv D) (hm : AddMem pb rv D w0 w1 rv' D') (hadd : AddS now x (D.map Dg.abs) (D'.map Dg.abs) out dr) (hz : out = none → L = zeroP)
    (hy : ∀ y, out = some y → ∃ A c, L = pkL y A c ∧ PkOk y ∧ BodyAt w1 ⟨y, A, c⟩ ∧ (∀ g, A = some ⟨g, 0, none⟩ → w0.heap.size ≤ g ∧ ¬ bods D' g) ∧ y.body.length ≤ 100000000) : AddBox pb rv D now x w w1.heap.size rv' D' out dr (w1.alloc (.cells L.toArray 43)) := by
  have hb : Below w1.heap.size w1 (w1.alloc (.cells L.toArray 43)) := (Below.refl _ _).alloc (Nat.le_refl _) _
  have h01 : w0.heap.size ≤ w1.heap.size := hm.kept.size
  refine ⟨((AddMem.below hP hw).trans hm).trans (AddMem.below hm.pool hb), hadd, by have := hw.size; omega, L, heap_alloc_new _ _, hz, fun y e => ?_⟩
  obtain ⟨A, c, e1, ok, hbd, hf, hl⟩ := hy y e
  exact ⟨A, c, e1, ok, hbd.keep (fun g hg => hb.block g (hbd.lt hg)) hb.size, fun k hk => ⟨by have := (hf k hk).1; have := hw.size; omega, (hf k hk).2⟩, hl⟩
/-- the box made ahead of it -/
theorem addbox_b {pb now g : Nat} {x : Pk} {rv rv' : Value} {D D' : List Dg} {w w0 w1 : World} {out : Option Pk} {dr : Bool} {L : List Value} {Z : Array Value} (hw : Below w.heap.size w w0) (hP : PoolAt w pb rv D) (hg : w.heap.size ≤ g) (hg1 : g < w0.heap.size) (hgz : w1.heap[g]? = some (.cells Z 43 (0, 0))) (hm : AddMem pb rv D w0 w1 rv' D') (hadd : AddS now x (D.map Dg.abs) (D'.map Dg.abs) out dr) (hz : out = none → L = zeroP)
    (hy : ∀ y, out = some y → ∃ A c, L = pkL y A c ∧ PkOk y ∧ BodyAt w1 ⟨y, A, c⟩ ∧ (∀ g, A = some ⟨g, 0, none⟩ → w0.heap.size ≤ g ∧ ¬ bods D' g) ∧ y.body.length ≤ 100000000) : AddBox pb rv D now x w g rv' D' out dr (w1.setRow g L.toArray) := by
  have t := Turned.setRow hgz L.toArray
  have hm0 := (AddMem.below hP hw).trans hm
  have hnf : ¬ (foot pb rv' D' g ∨ bods D' g) := by
    rintro (h | h)
    · rcases hm.foot g h with h | h
      · have := hP.lt (.inl h); omega
      · omega
    · rcases hm.bods g h with h | h
      · have := hP.lt (.inr h); omega
      · omega
  refine ⟨hm0.put t hg hnf, hadd, hg, L, t.get (lt_of_blk hgz), hz, fun y e => ?_⟩
  obtain ⟨A, c, e1, ok, hbd, hf, hl⟩ := hy y e
  exact ⟨A, c, e1, ok, hbd.keep (fun k hk => t.other (fun e2 => by
    obtain ⟨cu, hc⟩ := body_type hbd hk
    rw [e2, hgz] at hc; cases hc)) (by rw [t.size]; exact Nat.le_refl _), fun k hk => ⟨by have := (hf k hk).1; have := hw.size; omega, (hf k hk).2⟩, hl⟩
set_option maxRecDepth 100000 in
set_option maxHeartbeats 8000000 in
theorem reg18 {pb now b9 b o i n c ct : Nat} {rv : Value} {D : List Dg} {P : List Value} {x : Pk} {At : Option Addr} (w : World) (hP : PoolAt w pb rv D) (hx : PkAt P x At ct) (hbx : w.heap[b9]? = some (.cells P.toArray 43 (0, 0))) (hb : Bs w w.heap.size At ct x.body) (hl : x.body.length ≤ 1000000) (hb5 : At = none ∨ ∃ g o cur, At = some ⟨g, o, none⟩ ∧ w.heap[g]? = some (.cells cur 5 (0, 0)))
    (hn : now < 18446744073709551616) (hi : i < n) (hi9 : n ≤ 1000) (hcell : w.cell? ⟨b, o + i * 42 + 1, none⟩ = some (.int .u64 (now : Int))) (hf9 : ¬ foot pb rv D b9) (hfb : ¬ foot pb rv D b)
    {u1 u2 u4 u5 u7 u8 u10 u11 u12 u13 u14 u15 u16 u17 u18 u19 u20 u21 u22 u23 u24 u25 u26 u27 u28 u29 u30 u31 u32 u33 u34 u35 u36 u37 u38 u39 u40 u41 u42 u43 u44 u45 u46 u47 u48 u49 u50 u51 u52 u53 u54 u55 u56 u57 u58 u59 u60 u61 u62 u63 u64 u65 u66 u67 u68 u69 u70 u71 u72 u73 u74 u75 u76 u77 u78 u79 u80 u81 u82 u83 u84 u85 u86 u87 u88 u89 u90 u91 u92 u93 u94 u95 u96 u97 u98 u99 u100 u101 u102 u103 u104 u105 u106 u107 u108 u109 u110 u111 u112 u113 u114 u115 u116 u117 u118 u119 u120 u121 u122 u123 u124 u125 u126 u127 u128 u129 u130 u131 u132 u133 u134 u135 u136 u137 u138 u139 u140 u141 u142 u143 u144 u145 u146 u147 u148 u149 u150 u151 u152 u153 u154 u155 u156 u157 u158 u159 u160 : Value} {Q : Exit → Act → World → Prop} (hQ : ∀ c (a : Act) d v W, Q (.panic c) (a.put d v) W → Q (.panic c) a W)
    (h : ∀ (r70 r71 r72 r73 r74 r75 r76 r77 r78 r79 r80 r81 : Value) (g : Nat) (rv' : Value) (D' : List Dg) (out : Option Pk) (dr : Bool) (W : World), AddBox pb rv D now x w g rv' D' out dr W → Q .normal ⟨(List.toArray (.slice (some ⟨b, o, none⟩) n c :: u1 :: u2 :: .pointer (some ⟨pb, 0, none⟩) :: u4 :: u5 :: .int .i64 (i : Nat) :: u7 :: u8 :: .pointer (some ⟨b9, 0, none⟩) :: .pointer (some ⟨g, 0, none⟩) :: .bool out.isSome :: .bool dr :: u13 :: u14 :: u15 :: u16 :: u17 :: u18 :: u19 :: u20 :: u21 :: u22 :: u23 :: u24 :: u25 :: u26 :: u27 :: u28 :: u29 :: u30 :: u31 :: u32 :: u33 :: u34 :: u35 :: u36 :: u37 :: u38 :: u39 :: u40 :: u41 :: u42 :: u43 :: u44 :: u45 :: u46 :: u47 :: u48 :: u49 :: u50 :: u51 :: u52 :: u53 :: u54 :: u55 :: u56 :: u57 :: u58 :: u59 :: u60 :: u61 :: u62 :: u63 :: u64 :: u65 :: u66 :: u67 :: u68 :: u69 :: r70 :: r71 :: r72 :: r73 :: r74 :: r75 :: r76 :: r77 :: r78 :: r79 :: r80 :: r81 :: u82 :: u83 :: u84 :: u85 :: u86 :: u87 :: u88 :: u89 :: u90 :: u91 :: u92 :: u93 :: u94 :: u95 :: u96 :: u97 :: u98 :: u99 :: u100 :: u101 :: u102 :: u103 :: u104 :: u105 :: u106 :: u107 :: u108 :: u109 :: u110 :: u111 :: u112 :: u113 :: u114 :: u115 :: u116 :: u117 :: u118 :: u119 :: u120 :: u121 :: u122 :: u123 :: u124 :: u125 :: u126 :: u127 :: u128 :: u129 :: u130 :: u131 :: u132 :: u133 :: u134 :: u135 :: u136 :: u137 :: u138 :: u139 :: u140 :: u141 :: u142 :: u143 :: u144 :: u145 :: u146 :: u147 :: u148 :: u149 :: u150 :: u151 :: u152 :: u153 :: u154 :: u155 :: u156 :: u157 :: u158 :: u159 :: u160 :: [])), []⟩ W) :
    (codeAt [1, 1, 1, 1, 1, 0, 1, 0, 0, 1, 0, 0, 0, 1, 1, 1, 0] (Try.f3.body.getD .skip)).wp Try.prog Q ⟨(List.toArray (.slice (some ⟨b, o, none⟩) n c :: u1 :: u2 :: .pointer (some ⟨pb, 0, none⟩) :: u4 :: u5 :: .int .i64 (i : Nat) :: u7 :: u8 :: .pointer (some ⟨b9, 0, none⟩) :: u10 :: u11 :: u12 :: u13 :: u14 :: u15 :: u16 :: u17 :: u18 :: u19 :: u20 :: u21 :: u22 :: u23 :: u24 :: u25 :: u26 :: u27 :: u28 :: u29 :: u30 :: u31 :: u32 :: u33 :: u34 :: u35 :: u36 :: u37 :: u38 :: u39 :: u40 :: u41 :: u42 :: u43 :: u44 :: u45 :: u46 :: u47 :: u48 :: u49 :: u50 :: u51 :: u52 :: u53 :: u54 :: u55 :: u56 :: u57 :: u58 :: u59 :: u60 :: u61 :: u62 :: u63 :: u64 :: u65 :: u66 :: u67 :: u68 :: u69 :: u70 :: u71 :: u72 :: u73 :: u74 :: u75 :: u76 :: u77 :: u78 :: u79 :: u80 :: u81 :: u82 :: u83 :: u84 :: u85 :: u86 :: u87 :: u88 :: u89 :: u90 :: u91 :: u92 :: u93 :: u94 :: u95 :: u96 :: u97 :: u98 :: u99 :: u100 :: u101 :: u102 :: u103 :: u104 :: u105 :: u106 :: u107 :: u108 :: u109 :: u110 :: u111 :: u112 :: u113 :: u114 :: u115 :: u116 :: u117 :: u118 :: u119 :: u120 :: u121 :: u122 :: u123 :: u124 :: u125 :: u126 :: u127 :: u128 :: u129 :: u130 :: u131 :: u132 :: u133 :: u134 :: u135 :: u136 :: u137 :: u138 :: u139 :: u140 :: u141 :: u142 :: u143 :: u144 :: u145 :: u146 :: u147 :: u148 :: u149 :: u150 :: u151 :: u152 :: u153 :: u154 :: u155 :: u156 :: u157 :: u158 :: u159 :: u160 :: [])), []⟩ w := by
  have HP := Lib.hid hP; have HX := Lib.hid hx; have HBX := Lib.hid hbx; have HB := Lib.hid hb; have HL := Lib.hid hl; have HB5 := Lib.hid hb5; have HN := Lib.hid hn
  have HSZ := Lib.hid size43; have HLEN := Lib.hid hx.len
  have hBL := lt_of_cell hcell
  have HBL := Lib.hid hBL; have HC := Lib.hid hcell; have HF9 := Lib.hid hf9; have HFB := Lib.hid hfb
  have HZL := Lib.hid zeroP_length
  have h0 : Below w.heap.size w w.drew := (Below.refl _ _).drew
  have hS : Below w.heap.size w w.drew := h0
  clear hP hx hbx hb hl hb5 hn hBL hcell hf9 hfb h0
  conv in codeAt _ _ => whnf
  obtain ⟨W0, hW0⟩ : ∃ W, W = w.drew := ⟨_, rfl⟩
  have HCALL : Hid (∀ W, Below w.heap.size w W → Calls Try.prog 16 #[.pointer (some ⟨pb, 0, none⟩), .int .u64 (now : Int), .agg P.toArray] W (AddRes pb rv D now x W)) := Lib.hid fun W hW => add16 W (HP.out.below hW) HX.out ((HB.out.below hW).mono hW.size) HL.out (HB5.out.imp id fun ⟨g, o, cur, e, hg⟩ => ⟨g, o, cur, e, (hW.block g (lt_of_blk hg)).trans hg⟩) HN.out
  have hSS : ∀ W, Below w.heap.size w W → W.heap[b9]? = some (.cells P.toArray 43 (0, 0)) ∧ W.cell? ⟨b, o + i * 42 + 1, none⟩ = some (.int .u64 (now : Int)) := fun W hW => ⟨(hW.block b9 (lt_of_blk HBX.out)).trans HBX.out, (hW.cell (p := ⟨b, o + i * 42 + 1, none⟩) HBL.out).trans HC.out⟩
  have HSS := Lib.hid hSS
  have H0 : Hid (Below w.heap.size w W0) := Lib.hid (by rw [hW0]; exact hS)
  have HSA : Hid (∀ W W' rv' D', W.heap[b9]? = some (.cells P.toArray 43 (0, 0)) ∧ W.cell? ⟨b, o + i * 42 + 1, none⟩ = some (.int .u64 (now : Int)) → AddMem pb rv D W W' rv' D' → W'.heap[b9]? = some (.cells P.toArray 43 (0, 0)) ∧ W'.cell? ⟨b, o + i * 42 + 1, none⟩ = some (.int .u64 (now : Int))) := Lib.hid fun W W' rv' D' hS hm => ⟨(hm.kept.block b9 (lt_of_blk hS.1) HF9.out).trans hS.1, (World.cell?_of_block (w := W) (a := ⟨b, o + i * 42 + 1, none⟩) (hm.kept.block b (lt_of_cell hS.2) HFB.out)).trans hS.2⟩
  have HSB : Hid (∀ W W', W.heap[b9]? = some (.cells P.toArray 43 (0, 0)) ∧ W.cell? ⟨b, o + i * 42 + 1, none⟩ = some (.int .u64 (now : Int)) → Below W.heap.size W W' → W'.heap[b9]? = some (.cells P.toArray 43 (0, 0)) ∧ W'.cell? ⟨b, o + i * 42 + 1, none⟩ = some (.int .u64 (now : Int))) := Lib.hid fun W W' hS hm => ⟨(hm.block b9 (lt_of_blk hS.1)).trans hS.1, (hm.cell (p := ⟨b, o + i * 42 + 1, none⟩) (lt_of_cell hS.2)).trans hS.2⟩
  have hA : ∀ (W : World) (o : Obj), Below W.heap.size W (W.alloc o) := fun W o => (Below.refl _ _).alloc (Nat.le_refl _) _
  have HA := Lib.hid hA
  have hS2 := hSS w.drew hS
  clear hSS hS hA
  refine wp_region_held_drew (S := fun W => W.heap[b9]? = some (.cells P.toArray 43 (0, 0)) ∧ W.cell? ⟨b, o + i * 42 + 1, none⟩ = some (.int .u64 (now : Int))) (by kernel_rfl) hS2 ?_
  rw [← hW0]
  clear hW0 hS2
  intro HS
  refine wpAnyH_take (i := 0) (v := ?_) rfl (by kernel_rfl) (by kernel_rfl) (by kernel_rfl) (fun c x W h => hQ c _ _ _ W h) (Or.inl ⟨by go_simp, ?hy⟩) HS ?_
  case hy => intro W hW; go_simp; (try with_reducible rfl)
  try simp only [List.getElem_toArray, List.getElem_cons_zero, List.getElem_cons_succ, Act.put, List.setIfInBounds_toArray, List.set_cons_zero, List.set_cons_succ]
  refine wpAnyH_take (i := 1) (v := ?_) rfl (by kernel_rfl) (by kernel_rfl) (by kernel_rfl) (fun c x W h => hQ c _ _ _ W h) (Or.inl ⟨by go_simp, ?hy⟩) HS ?_
  case hy => intro W hW; go_simp; (try with_reducible rfl)
  try simp only [List.getElem_toArray, List.getElem_cons_zero, List.getElem_cons_succ, Act.put, List.setIfInBounds_toArray, List.set_cons_zero, List.set_cons_succ]
  refine wpAnyH_take (i := 2) (v := ?_) rfl (by kernel_rfl) (by kernel_rfl) (by kernel_rfl) (fun c x W h => hQ c _ _ _ W h) (Or.inl ⟨by go_simp, ?hy⟩) HS ?_
  case hy => intro W hW; go_simp; (try with_reducible rfl)
  try simp only [List.getElem_toArray, List.getElem_cons_zero, List.getElem_cons_succ, Act.put, List.setIfInBounds_toArray, List.set_cons_zero, List.set_cons_succ]
  refine wpAnyH_take (i := 3) (v := ?_) rfl (by kernel_rfl) (by kernel_rfl) (by kernel_rfl) (fun c x W h => hQ c _ _ _ W h) (Or.inl ⟨by go_simp, ?hy⟩) HS ?_
  case hy => intro W hW; go_simp; (try with_reducible rfl)
  try simp only [List.getElem_toArray, List.getElem_cons_zero, List.getElem_cons_succ, Act.put, List.setIfInBounds_toArray, List.set_cons_zero, List.set_cons_succ]
  refine wpAnyH_take (i := 4) (v := ?_) rfl (by kernel_rfl) (by kernel_rfl) (by kernel_rfl) (fun c x W h => hQ c _ _ _ W h) (Or.inl ⟨by go_simp, ?hy⟩) HS ?_
  case hy => intro W hW; go_simp; (try with_reducible rfl)
  try simp only [List.getElem_toArray, List.getElem_cons_zero, List.getElem_cons_succ, Act.put, List.setIfInBounds_toArray, List.set_cons_zero, List.set_cons_succ]
  refine wpAnyH_take (i := 5) (v := ?_) rfl (by kernel_rfl) (by kernel_rfl) (by kernel_rfl) (fun c x W h => hQ c _ _ _ W h) (Or.inl ⟨by go_simp, ?hy⟩) HS ?_
  case hy => intro W hW; have d := hW.2; go_simp; (try with_reducible rfl)
  try simp only [List.getElem_toArray, List.getElem_cons_zero, List.getElem_cons_succ, Act.put, List.setIfInBounds_toArray, List.set_cons_zero, List.set_cons_succ]
  refine wpAnyH_take (i := 6) (v := .agg P.toArray) rfl (by kernel_rfl) (by kernel_rfl) (by kernel_rfl) (fun c x W h => hQ c _ _ _ W h) (by refine yieldsIf_load_mid ?hw 43 (.tmp 9) ?ho b9 0 ?hx P _ (fun W hW => row_of hW.1) Try.underlying43 rfl (by rw [HLEN.out]; exact HSZ.out); (case ho => rfl); (case hw => go_simp); (case hx => go_simp)) HS ?_
  try simp only [List.getElem_toArray, List.getElem_cons_zero, List.getElem_cons_succ, Act.put, List.setIfInBounds_toArray, List.set_cons_zero, List.set_cons_succ]
  refine wpAnyH_ready (rs := [7, 12]) (by kernel_rfl) (by simp) ?_
  refine AllReadyH.cons rfl (fun K hK => ?_) (AllReadyH.cons rfl (fun K hK => ?_) AllReadyH.nil)
  · skip
    rw [if_pos (by kernel_rfl)]
    simp only [List.getElem_toArray, List.getElem_cons_zero, List.getElem_cons_succ]
    go_simp
    refine (HCALL.out _ H0.out).mono ?_
    rintro e w1 ⟨rv', D', out, dr, L, hm, hadd, rfl, hz, hy⟩
    have HM := Lib.hid hm; have HADD := Lib.hid hadd; have HZ := Lib.hid hz; have HY := Lib.hid hy
    have hll := add_len (w' := w1) (Q := fun y A c => BodyAt w1 ⟨y, A, c⟩ ∧ (∀ g, A = some ⟨g, 0, none⟩ → W0.heap.size ≤ g ∧ ¬ bods D' g) ∧ y.body.length ≤ 100000000) hz hy
    have HLL := Lib.hid hll.1; have HLO := Lib.hid hll.2
    have HS1 := Lib.hid (HSA.out W0 w1 rv' D' HS hm)
    clear hm hadd hz hy hll
    refine hK.out _ _ HS1.out (fun HS => ?_)
    clear hK
    try simp only [List.getElem_toArray, List.getElem_cons_zero, List.getElem_cons_succ, Act.put, List.setIfInBounds_toArray, List.set_cons_zero, List.set_cons_succ]
    refine wpAnyH_take (i := 8) (v := ?_) rfl (by kernel_rfl) (by kernel_rfl) (by kernel_rfl) (fun c x W h => hQ c _ _ _ W h) (Or.inl ⟨by go_simp, ?hy⟩) HS ?_
    case hy => intro W hW; go_simp; (try with_reducible rfl)
    try simp only [List.getElem_toArray, List.getElem_cons_zero, List.getElem_cons_succ, Act.put, List.setIfInBounds_toArray, List.set_cons_zero, List.set_cons_succ]
    refine wpAnyH_take (i := 9) (v := ?_) rfl (by kernel_rfl) (by kernel_rfl) (by kernel_rfl) (fun c x W h => hQ c _ _ _ W h) (Or.inl ⟨by go_simp, ?hy⟩) HS ?_
    case hy => intro W hW; go_simp; (try with_reducible rfl)
    try simp only [List.getElem_toArray, List.getElem_cons_zero, List.getElem_cons_succ, Act.put, List.setIfInBounds_toArray, List.set_cons_zero, List.set_cons_succ]
    refine wpAnyH_take (i := 10) (v := ?_) rfl (by kernel_rfl) (by kernel_rfl) (by kernel_rfl) (fun c x W h => hQ c _ _ _ W h) (Or.inl ⟨by go_simp, ?hy⟩) HS ?_
    case hy => intro W hW; go_simp; (try with_reducible rfl)
    try simp only [List.getElem_toArray, List.getElem_cons_zero, List.getElem_cons_succ, Act.put, List.setIfInBounds_toArray, List.set_cons_zero, List.set_cons_succ]
    refine wpAnyH_take (i := 11) (v := ?_) rfl (by kernel_rfl) (by kernel_rfl) (by kernel_rfl) (fun c x W h => hQ c _ _ _ W h) (Or.inl ⟨by go_simp, ?hy⟩) HS ?_
    case hy => intro W hW; go_simp; (try with_reducible rfl)
    try simp only [List.getElem_toArray, List.getElem_cons_zero, List.getElem_cons_succ, Act.put, List.setIfInBounds_toArray, List.set_cons_zero, List.set_cons_succ]
    refine wpAnyH_ready (rs := [12]) (by kernel_rfl) (by simp) ?_
    refine AllReadyH.cons rfl (fun K hK => ?_) AllReadyH.nil
    rw [if_pos (by kernel_rfl)]
    simp only [List.getElem_toArray, List.getElem_cons_zero, List.getElem_cons_succ]
    go_simp
    rw [zeroP_lit]
    refine hK.out _ _ (HSB.out _ _ HS1.out (HA.out _ _)) (fun HS => ?_)
    clear hK
    try simp only [List.getElem_toArray, List.getElem_cons_zero, List.getElem_cons_succ, Act.put, List.setIfInBounds_toArray, List.set_cons_zero, List.set_cons_succ]
    refine wpAnyH_ready (rs := [13]) (by kernel_rfl) (by simp) ?_
    refine AllReadyH.cons rfl (fun K hK => ?_) AllReadyH.nil
    rw [if_pos (by kernel_rfl)]
    simp only [List.getElem_toArray, List.getElem_cons_zero, List.getElem_cons_succ]
    refine wp_store_row 43 (.tmp 10) (.tmp 79) rfl w1.heap.size L.toArray rfl rfl 43 zeroP.toArray (heap_alloc_new w1 _) (by rw [List.size_toArray, HLL.out]; exact HSZ.out) (by rw [List.size_toArray, List.size_toArray, HLL.out, HZL.out]) (all_oneCell_toArray HLO.out) ?_
    rw [World.setRow_alloc_new]
    refine hK.out _ _ (HSB.out _ _ HS1.out (HA.out _ _)) (fun HS => ?_)
    clear hK
    try simp only [List.getElem_toArray, List.getElem_cons_zero, List.getElem_cons_succ, Act.put, List.setIfInBounds_toArray, List.set_cons_zero, List.set_cons_succ]
    refine wpAnyH_take (i := 14) (v := ?_) rfl (by kernel_rfl) (by kernel_rfl) (by kernel_rfl) (fun c x W h => hQ c _ _ _ W h) (Or.inl ⟨by go_simp, ?hy⟩) HS ?_
    case hy => intro W hW; go_simp; (try with_reducible rfl)
    try simp only [List.getElem_toArray, List.getElem_cons_zero, List.getElem_cons_succ, Act.put, List.setIfInBounds_toArray, List.set_cons_zero, List.set_cons_succ]
    refine wpAnyH_take (i := 15) (v := ?_) rfl (by kernel_rfl) (by kernel_rfl) (by kernel_rfl) (fun c x W h => hQ c _ _ _ W h) (Or.inl ⟨by go_simp, ?hy⟩) HS ?_
    case hy => intro W hW; go_simp; (try with_reducible rfl)
    try simp only [List.getElem_toArray, List.getElem_cons_zero, List.getElem_cons_succ, Act.put, List.setIfInBounds_toArray, List.set_cons_zero, List.set_cons_succ]
    refine wpAnyH_done (by kernel_rfl) ?_ _
    exact h _ _ _ _ _ _ _ _ _ _ _ _ _ _ _ _ _ _ (addbox_a (Z := #[]) H0.out HP.out HM.out HADD.out HZ.out HY.out)
  · skip
    rw [if_pos (by kernel_rfl)]
    simp only [List.getElem_toArray, List.getElem_cons_zero, List.getElem_cons_succ]
    go_simp
    rw [zeroP_lit]
    have x10 := heap_alloc_new W0 (.cells zeroP.toArray 43)
    have hsz : (W0.alloc (.cells zeroP.toArray 43)).heap.size = W0.heap.size + 1 := by simp
    have HB1 := Lib.hid (H0.out.trans ((HA.out W0 (.cells zeroP.toArray 43)).mono H0.out.size))
    have HS1 := Lib.hid (HSB.out _ _ HS (HA.out W0 (.cells zeroP.toArray 43)))
    obtain ⟨W1, hW1⟩ : ∃ W, W = W0.alloc (.cells zeroP.toArray 43) := ⟨_, rfl⟩
    rw [← hW1] at x10 hsz HB1 HS1 ⊢
    obtain ⟨g, hg⟩ : ∃ g, g = W0.heap.size := ⟨_, rfl⟩
    rw [← hg] at x10 hsz ⊢
    have HX10 := Lib.hid x10; have HG := Lib.hid hg; have HSZ1 := Lib.hid hsz
    clear x10 hsz hW1 hg
    refine hK.out _ _ HS1.out (fun HS => ?_)
    clear hK
    try simp only [List.getElem_toArray, List.getElem_cons_zero, List.getElem_cons_succ, Act.put, List.setIfInBounds_toArray, List.set_cons_zero, List.set_cons_succ]
    refine wpAnyH_ready (rs := [7]) (by kernel_rfl) (by simp) ?_
    refine AllReadyH.cons rfl (fun K hK => ?_) AllReadyH.nil
    rw [if_pos (by kernel_rfl)]
    simp only [List.getElem_toArray, List.getElem_cons_zero, List.getElem_cons_succ]
    go_simp
    refine (HCALL.out _ HB1.out).mono ?_
    rintro e w1 ⟨rv', D', out, dr, L, hm, hadd, rfl, hz, hy⟩
    have HM := Lib.hid hm; have HADD := Lib.hid hadd; have HZ := Lib.hid hz; have HY := Lib.hid hy
    have hll := add_len (w' := w1) (Q := fun y A c => BodyAt w1 ⟨y, A, c⟩ ∧ (∀ g, A = some ⟨g, 0, none⟩ → W1.heap.size ≤ g ∧ ¬ bods D' g) ∧ y.body.length ≤ 100000000) hz hy
    have HLL := Lib.hid hll.1; have HLO := Lib.hid hll.2
    have HS2 := Lib.hid (HSA.out W1 w1 rv' D' HS hm)
    have HGL : Hid (w.heap.size ≤ g) := Lib.hid (by rw [HG.out]; exact H0.out.size)
    have HGZ : Hid (w1.heap[g]? = some (.cells zeroP.toArray 43 (0, 0))) := Lib.hid ((hm.kept.block g (lt_of_blk HX10.out) (fun hf => by have := HP.out.lt (.inl hf); have := HGL.out; omega)).trans HX10.out)
    clear hm hadd hz hy hll
    refine hK.out _ _ HS2.out (fun HS => ?_)
    clear hK
    try simp only [List.getElem_toArray, List.getElem_cons_zero, List.getElem_cons_succ, Act.put, List.setIfInBounds_toArray, List.set_cons_zero, List.set_cons_succ]
    refine wpAnyH_take (i := 8) (v := ?_) rfl (by kernel_rfl) (by kernel_rfl) (by kernel_rfl) (fun c x W h => hQ c _ _ _ W h) (Or.inl ⟨by go_simp, ?hy⟩) HS ?_
    case hy => intro W hW; go_simp; (try with_reducible rfl)
    try simp only [List.getElem_toArray, List.getElem_cons_zero, List.getElem_cons_succ, Act.put, List.setIfInBounds_toArray, List.set_cons_zero, List.set_cons_succ]
    refine wpAnyH_take (i := 9) (v := ?_) rfl (by kernel_rfl) (by kernel_rfl) (by kernel_rfl) (fun c x W h => hQ c _ _ _ W h) (Or.inl ⟨by go_simp, ?hy⟩) HS ?_
    case hy => intro W hW; go_simp; (try with_reducible rfl)
    try simp only [List.getElem_toArray, List.getElem_cons_zero, List.getElem_cons_succ, Act.put, List.setIfInBounds_toArray, List.set_cons_zero, List.set_cons_succ]
    refine wpAnyH_take (i := 10) (v := ?_) rfl (by kernel_rfl) (by kernel_rfl) (by kernel_rfl) (fun c x W h => hQ c _ _ _ W h) (Or.inl ⟨by go_simp, ?hy⟩) HS ?_
    case hy => intro W hW; go_simp; (try with_reducible rfl)
    try simp only [List.getElem_toArray, List.getElem_cons_zero, List.getElem_cons_succ, Act.put, List.setIfInBounds_toArray, List.set_cons_zero, List.set_cons_succ]
    refine wpAnyH_take (i := 11) (v := ?_) rfl (by kernel_rfl) (by kernel_rfl) (by kernel_rfl) (fun c x W h => hQ c _ _ _ W h) (Or.inl ⟨by go_simp, ?hy⟩) HS ?_
    case hy => intro W hW; go_simp; (try with_reducible rfl)
    try simp only [List.getElem_toArray, List.getElem_cons_zero, List.getElem_cons_succ, Act.put, List.setIfInBounds_toArray, List.set_cons_zero, List.set_cons_succ]
    refine wpAnyH_ready (rs := [13]) (by kernel_rfl) (by simp) ?_
    refine AllReadyH.cons rfl (fun K hK => ?_) AllReadyH.nil
    rw [if_pos (by kernel_rfl)]
    simp only [List.getElem_toArray, List.getElem_cons_zero, List.getElem_cons_succ]
    refine wp_store_row 43 (.tmp 10) (.tmp 79) rfl g L.toArray rfl rfl 43 zeroP.toArray HGZ.out (by rw [List.size_toArray, HLL.out]; exact HSZ.out) (by rw [List.size_toArray, List.size_toArray, HLL.out, HZL.out]) (all_oneCell_toArray HLO.out) ?_
    have HS3 : Hid ((w1.setRow g L.toArray).heap[b9]? = some (.cells P.toArray 43 (0, 0)) ∧ (w1.setRow g L.toArray).cell? ⟨b, o + i * 42 + 1, none⟩ = some (.int .u64 (now : Int))) := Lib.hid (by
      have t := Turned.setRow HGZ.out L.toArray
      have := HGL.out
      exact ⟨(t.other (k := b9) (by have := lt_of_blk HBX.out; omega)).trans HS2.out.1, (World.cell?_of_block (w := w1) (a := ⟨b, o + i * 42 + 1, none⟩) (t.other (k := b) (by have := HBL.out; omega))).trans HS2.out.2⟩)
    refine hK.out _ _ HS3.out (fun HS => ?_)
    clear hK
    try simp only [List.getElem_toArray, List.getElem_cons_zero, List.getElem_cons_succ, Act.put, List.setIfInBounds_toArray, List.set_cons_zero, List.set_cons_succ]
    refine wpAnyH_take (i := 14) (v := ?_) rfl (by kernel_rfl) (by kernel_rfl) (by kernel_rfl) (fun c x W h => hQ c _ _ _ W h) (Or.inl ⟨by go_simp, ?hy⟩) HS ?_
    case hy => intro W hW; go_simp; (try with_reducible rfl)
    try simp only [List.getElem_toArray, List.getElem_cons_zero, List.getElem_cons_succ, Act.put, List.setIfInBounds_toArray, List.set_cons_zero, List.set_cons_succ]
    refine wpAnyH_take (i := 15) (v := ?_) rfl (by kernel_rfl) (by kernel_rfl) (by kernel_rfl) (fun c x W h => hQ c _ _ _ W h) (Or.inl ⟨by go_simp, ?hy⟩) HS ?_
    case hy => intro W hW; go_simp; (try with_reducible rfl)
    try simp only [List.getElem_toArray, List.getElem_cons_zero, List.getElem_cons_succ, Act.put, List.setIfInBounds_toArray, List.set_cons_zero, List.set_cons_succ]
    refine wpAnyH_done (by kernel_rfl) ?_ _
    exact h _ _ _ _ _ _ _ _ _ _ _ _ _ _ _ _ _ _ (addbox_b HB1.out HP.out HGL.out (by rw [HSZ1.out]; omega) HGZ.out HM.out HADD.out HZ.out HY.out)
end Go.Proofs.Ytjldcblklbikaaa

/- FragsPlay: the call of the document's Add, its results put away: the walk. No condition beyond those named. (Written out by exp.py.) -/
namespace Go.Proofs.Ytjldcblklbikaaa
open Go.RowKit
set_option linter.unusedVariables false
set_option linter.unusedSimpArgs false
/-- what the call of the document's Add leaves, its packet in a box -/
structure RefBox (mb : Nat) (rm : Value) (R : List Dg) (now : Nat) (x : Pk) (w : World) (g : Nat) (rm' : Value) (R' : List Dg) (out : Option Pk) (dr : Bool) (w' : World) : Prop where
  mem : RefMem mb rm R w w' rm' R'
  add : AddS now x (R.map Dg.abs) (R'.map Dg.abs) out dr
  fresh : w.heap.size ≤ g
  box : ∃ L : List Value, w'.heap[g]? = some (.cells L.toArray 43 (0, 0)) ∧ (out = none → L = zeroP) ∧ ∀ y, out = some y → ∃ A c, L = pkL y A c ∧ PkOk y ∧ BodyAt w' ⟨y, A, c⟩ ∧ y.body.length ≤ 100000000
theorem refbox_a {mb now : Nat} {x : Pk} {rm rm' : Value} {R R' : List Dg} {w w0 w1 : World} {out : Option Pk} {dr : Bool} {L : List Value} (hw : Below w.heap.size w w0) (hP : RefAt w mb rm R) (hm : RefMem mb rm R w0 w1 rm' R') (hadd : AddS now x (R.map Dg.abs) (R'.map Dg.abs) out dr) (hz : out = none → L = zeroP)
    (hy : ∀ y, out = some y → ∃ A c, L = pkL y A c ∧ PkOk y ∧ BodyAt w1 ⟨y, A, c⟩ ∧ (∀ g, A = some ⟨g, 0, none⟩ → w0.heap.size ≤ g) ∧ y.body.length ≤ 100000000) : RefBox mb rm R now x w w1.heap.size rm' R' out dr (w1.alloc (.cells L.toArray 43)) := by
  have hb : Below w1.heap.size w1 (w1.alloc (.cells L.toArray 43)) := (Below.refl _ _).alloc (Nat.le_refl _) _
  have h01 : w0.heap.size ≤ w1.heap.size := hm.kept.size
  refine ⟨((RefMem.below hP hw).trans hm).trans (RefMem.below hm.pool hb), hadd, by have := hw.size; omega, L, heap_alloc_new _ _, hz, fun y e => ?_⟩
  obtain ⟨A, c, e1, ok, hbd, hf, hl⟩ := hy y e
  exact ⟨A, c, e1, ok, hbd.keep (fun g hg => hb.block g (hbd.lt hg)) hb.size, hl⟩
theorem refbox_b {mb now g : Nat} {x : Pk} {rm rm' : Value} {R R' : List Dg} {w w0 w1 : World} {out : Option Pk} {dr : Bool} {L : List Value} {Z : Array Value} (hw : Below w.heap.size w w0) (hP : RefAt w mb rm R) (hg : w.heap.size ≤ g) (hg1 : g < w0.heap.size) (hgz : w1.heap[g]? = some (.cells Z 43 (0, 0))) (hm : RefMem mb rm R w0 w1 rm' R') (hadd : AddS now x (R.map Dg.abs) (R'.map Dg.abs) out dr) (hz : out = none → L = zeroP)
    (hy : ∀ y, out = some y → ∃ A c, L = pkL y A c ∧ PkOk y ∧ BodyAt w1 ⟨y, A, c⟩ ∧ (∀ g, A = some ⟨g, 0, none⟩ → w0.heap.size ≤ g) ∧ y.body.length ≤ 100000000) : RefBox mb rm R now x w g rm' R' out dr (w1.setRow g L.toArray) := by
  have t := Turned.setRow hgz L.toArray
  have hm0 := (RefMem.below hP hw).trans hm
  have hnf : ¬ (rfoot mb rm' R' g ∨ bods R' g) := by
    rintro (h | h)
    · rcases hm.foot g h with h | h
      · have := hP.lt (.inl h); omega
      · omega
    · rcases hm.bods g h with h | h
      · have := hP.lt (.inr h); omega
      · omega
  refine ⟨hm0.put t hg hnf, hadd, hg, L, t.get (lt_of_blk hgz), hz, fun y e => ?_⟩
  obtain ⟨A, c, e1, ok, hbd, hf, hl⟩ := hy y e
  exact ⟨A, c, e1, ok, hbd.keep (fun k hk => t.other (fun e2 => by
    obtain ⟨cu, hc⟩ := body_type hbd hk
    rw [e2, hgz] at hc; cases hc)) (by rw [t.size]; exact Nat.le_refl _), hl⟩
set_option maxRecDepth 100000 in
set_option maxHeartbeats 8000000 in
theorem reg19 {mb now b o i n c ct : Nat} {rm : Value} {R : List Dg} {P : List Value} {x : Pk} {At : Option Addr} (w : World) (hP : RefAt w mb rm R) (hgd : Good (R.map Dg.abs)) (hx : PkAt P x At ct) (hrng : w.rangeAt b (o + i * 42 + 2) P) (hb : Bs w w.heap.size At ct x.body) (hl : x.body.length ≤ 1000000) (hb5 : x.body ≠ [] → ∀ g o, At = some ⟨g, o, none⟩ → ¬ rfoot mb rm R g)
    (hn : now < 18446744073709551616) (hi : i < n) (hi9 : n ≤ 1000) (hcell : w.cell? ⟨b, o + i * 42 + 1, none⟩ = some (.int .u64 (now : Int))) (hfb : ¬ rfoot mb rm R b)
    {u1 u2 u3 u5 u7 u8 u9 u10 u11 u12 u13 u14 u15 u16 u17 u18 u19 u20 u21 u22 u23 u24 u25 u26 u27 u28 u29 u30 u31 u32 u33 u34 u35 u36 u37 u38 u39 u40 u41 u42 u43 u44 u45 u46 u47 u48 u49 u50 u51 u52 u53 u54 u55 u56 u57 u58 u59 u60 u61 u62 u63 u64 u65 u66 u67 u68 u69 u70 u71 u72 u73 u74 u75 u76 u77 u78 u79 u80 u81 u82 u83 u84 u85 u86 u87 u88 u89 u90 u91 u92 u93 u94 u95 u96 u97 u98 u99 u100 u101 u102 u103 u104 u105 u106 u107 u108 u109 u110 u111 u112 u113 u114 u115 u116 u117 u118 u119 u120 u121 u122 u123 u124 u125 u126 u127 u128 u129 u130 u131 u132 u133 u134 u135 u136 u137 u138 u139 u140 u141 u142 u143 u144 u145 u146 u147 u148 u149 u150 u151 u152 u153 u154 u155 u156 u157 u158 u159 u160 : Value} {Q : Exit → Act → World → Prop} (hQ : ∀ c (a : Act) d v W, Q (.panic c) (a.put d v) W → Q (.panic c) a W)
    (h : ∀ (r82 r83 r84 r85 r86 r87 r88 r89 r90 r91 r92 r93 r94 r95 r96 r97 : Value) (g : Nat) (rm' : Value) (R' : List Dg) (out : Option Pk) (dr : Bool) (W : World), RefBox mb rm R now x w g rm' R' out dr W → Q .normal ⟨(List.toArray (.slice (some ⟨b, o, none⟩) n c :: u1 :: u2 :: u3 :: .pointer (some ⟨mb, 0, none⟩) :: u5 :: .int .i64 (i : Nat) :: u7 :: u8 :: u9 :: u10 :: u11 :: u12 :: .pointer (some ⟨g, 0, none⟩) :: .bool out.isSome :: .bool dr :: u16 :: u17 :: u18 :: u19 :: u20 :: u21 :: u22 :: u23 :: u24 :: u25 :: u26 :: u27 :: u28 :: u29 :: u30 :: u31 :: u32 :: u33 :: u34 :: u35 :: u36 :: u37 :: u38 :: u39 :: u40 :: u41 :: u42 :: u43 :: u44 :: u45 :: u46 :: u47 :: u48 :: u49 :: u50 :: u51 :: u52 :: u53 :: u54 :: u55 :: u56 :: u57 :: u58 :: u59 :: u60 :: u61 :: u62 :: u63 :: u64 :: u65 :: u66 :: u67 :: u68 :: u69 :: u70 :: u71 :: u72 :: u73 :: u74 :: u75 :: u76 :: u77 :: u78 :: u79 :: u80 :: u81 :: r82 :: r83 :: r84 :: r85 :: r86 :: r87 :: r88 :: r89 :: r90 :: r91 :: r92 :: r93 :: r94 :: r95 :: r96 :: r97 :: u98 :: u99 :: u100 :: u101 :: u102 :: u103 :: u104 :: u105 :: u106 :: u107 :: u108 :: u109 :: u110 :: u111 :: u112 :: u113 :: u114 :: u115 :: u116 :: u117 :: u118 :: u119 :: u120 :: u121 :: u122 :: u123 :: u124 :: u125 :: u126 :: u127 :: u128 :: u129 :: u130 :: u131 :: u132 :: u133 :: u134 :: u135 :: u136 :: u137 :: u138 :: u139 :: u140 :: u141 :: u142 :: u143 :: u144 :: u145 :: u146 :: u147 :: u148 :: u149 :: u150 :: u151 :: u152 :: u153 :: u154 :: u155 :: u156 :: u157 :: u158 :: u159 :: u160 :: [])), []⟩ W) :
    (codeAt [1, 1, 1, 1, 1, 0, 1, 0, 0, 1, 0, 0, 0, 1, 1, 1, 1, 0] (Try.f3.body.getD .skip)).wp Try.prog Q ⟨(List.toArray (.slice (some ⟨b, o, none⟩) n c :: u1 :: u2 :: u3 :: .pointer (some ⟨mb, 0, none⟩) :: u5 :: .int .i64 (i : Nat) :: u7 :: u8 :: u9 :: u10 :: u11 :: u12 :: u13 :: u14 :: u15 :: u16 :: u17 :: u18 :: u19 :: u20 :: u21 :: u22 :: u23 :: u24 :: u25 :: u26 :: u27 :: u28 :: u29 :: u30 :: u31 :: u32 :: u33 :: u34 :: u35 :: u36 :: u37 :: u38 :: u39 :: u40 :: u41 :: u42 :: u43 :: u44 :: u45 :: u46 :: u47 :: u48 :: u49 :: u50 :: u51 :: u52 :: u53 :: u54 :: u55 :: u56 :: u57 :: u58 :: u59 :: u60 :: u61 :: u62 :: u63 :: u64 :: u65 :: u66 :: u67 :: u68 :: u69 :: u70 :: u71 :: u72 :: u73 :: u74 :: u75 :: u76 :: u77 :: u78 :: u79 :: u80 :: u81 :: u82 :: u83 :: u84 :: u85 :: u86 :: u87 :: u88 :: u89 :: u90 :: u91 :: u92 :: u93 :: u94 :: u95 :: u96 :: u97 :: u98 :: u99 :: u100 :: u101 :: u102 :: u103 :: u104 :: u105 :: u106 :: u107 :: u108 :: u109 :: u110 :: u111 :: u112 :: u113 :: u114 :: u115 :: u116 :: u117 :: u118 :: u119 :: u120 :: u121 :: u122 :: u123 :: u124 :: u125 :: u126 :: u127 :: u128 :: u129 :: u130 :: u131 :: u132 :: u133 :: u134 :: u135 :: u136 :: u137 :: u138 :: u139 :: u140 :: u141 :: u142 :: u143 :: u144 :: u145 :: u146 :: u147 :: u148 :: u149 :: u150 :: u151 :: u152 :: u153 :: u154 :: u155 :: u156 :: u157 :: u158 :: u159 :: u160 :: [])), []⟩ w := by
  have HP := Lib.hid hP; have HX := Lib.hid hx; have HR := Lib.hid hrng; have HGD := Lib.hid hgd; have HB := Lib.hid hb; have HL := Lib.hid hl; have HB5 := Lib.hid hb5; have HN := Lib.hid hn
  have HSZ := Lib.hid size43; have HLEN := Lib.hid hx.len
  have hBL := lt_of_cell hcell
  have HBL := Lib.hid hBL; have HC := Lib.hid hcell; have HFB := Lib.hid hfb
  have HZL := Lib.hid zeroP_length
  have h0 : Below w.heap.size w w.drew := (Below.refl _ _).drew
  have hS : Below w.heap.size w w.drew := h0
  clear hP hx hrng hgd hb hl hb5 hn hBL hcell hfb h0
  conv in codeAt _ _ => whnf
  obtain ⟨W0, hW0⟩ : ∃ W, W = w.drew := ⟨_, rfl⟩
  have HCALL : Hid (∀ W, Below w.heap.size w W → Calls Try.prog 17 #[.pointer (some ⟨mb, 0, none⟩), .int .u64 (now : Int), .agg P.toArray] W (RefRes mb rm R now x W)) := Lib.hid fun W hW => radd17 W (HP.out.below hW) HGD.out HX.out ((HB.out.below hW).mono hW.size) HL.out HB5.out HN.out
  have hSS : ∀ W, Below w.heap.size w W → W.rangeAt b (o + i * 42 + 2) P ∧ W.cell? ⟨b, o + i * 42 + 1, none⟩ = some (.int .u64 (now : Int)) := fun W hW => ⟨range_below HR.out HBL.out hW, (hW.cell (p := ⟨b, o + i * 42 + 1, none⟩) HBL.out).trans HC.out⟩
  have HSS := Lib.hid hSS
  have H0 : Hid (Below w.heap.size w W0) := Lib.hid (by rw [hW0]; exact hS)
  have HSA : Hid (∀ W W' rm' R', W.rangeAt b (o + i * 42 + 2) P ∧ W.cell? ⟨b, o + i * 42 + 1, none⟩ = some (.int .u64 (now : Int)) → RefMem mb rm R W W' rm' R' → W'.rangeAt b (o + i * 42 + 2) P ∧ W'.cell? ⟨b, o + i * 42 + 1, none⟩ = some (.int .u64 (now : Int))) := Lib.hid fun W W' rm' R' hS hm => ⟨fun j v hj => (World.cell?_of_block (w := W) (a := ⟨b, o + i * 42 + 2 + j, none⟩) (hm.kept.block b (lt_of_cell hS.2) HFB.out)).trans (hS.1 j v hj), (World.cell?_of_block (w := W) (a := ⟨b, o + i * 42 + 1, none⟩) (hm.kept.block b (lt_of_cell hS.2) HFB.out)).trans hS.2⟩
  have HSB : Hid (∀ W W', W.rangeAt b (o + i * 42 + 2) P ∧ W.cell? ⟨b, o + i * 42 + 1, none⟩ = some (.int .u64 (now : Int)) → Below W.heap.size W W' → W'.rangeAt b (o + i * 42 + 2) P ∧ W'.cell? ⟨b, o + i * 42 + 1, none⟩ = some (.int .u64 (now : Int))) := Lib.hid fun W W' hS hm => ⟨range_below hS.1 (lt_of_cell hS.2) hm, (hm.cell (p := ⟨b, o + i * 42 + 1, none⟩) (lt_of_cell hS.2)).trans hS.2⟩
  have hA : ∀ (W : World) (o : Obj), Below W.heap.size W (W.alloc o) := fun W o => (Below.refl _ _).alloc (Nat.le_refl _) _
  have HA := Lib.hid hA
  have hS2 := hSS w.drew hS
  clear hSS hS hA
  refine wp_region_held_drew (S := fun W => W.rangeAt b (o + i * 42 + 2) P ∧ W.cell? ⟨b, o + i * 42 + 1, none⟩ = some (.int .u64 (now : Int))) (by kernel_rfl) hS2 ?_
  rw [← hW0]
  clear hW0 hS2
  intro HS
  refine wpAnyH_take (i := 0) (v := ?_) rfl (by kernel_rfl) (by kernel_rfl) (by kernel_rfl) (fun c x W h => hQ c _ _ _ W h) (Or.inl ⟨by go_simp, ?hy⟩) HS ?_
  case hy => intro W hW; go_simp; (try with_reducible rfl)
  try simp only [List.getElem_toArray, List.getElem_cons_zero, List.getElem_cons_succ, Act.put, List.setIfInBounds_toArray, List.set_cons_zero, List.set_cons_succ]
  refine wpAnyH_take (i := 1) (v := ?_) rfl (by kernel_rfl) (by kernel_rfl) (by kernel_rfl) (fun c x W h => hQ c _ _ _ W h) (Or.inl ⟨by go_simp, ?hy⟩) HS ?_
  case hy => intro W hW; go_simp; (try with_reducible rfl)
  try simp only [List.getElem_toArray, List.getElem_cons_zero, List.getElem_cons_succ, Act.put, List.setIfInBounds_toArray, List.set_cons_zero, List.set_cons_succ]
  refine wpAnyH_take (i := 2) (v := ?_) rfl (by kernel_rfl) (by kernel_rfl) (by kernel_rfl) (fun c x W h => hQ c _ _ _ W h) (Or.inl ⟨by go_simp, ?hy⟩) HS ?_
  case hy => intro W hW; go_simp; (try with_reducible rfl)
  try simp only [List.getElem_toArray, List.getElem_cons_zero, List.getElem_cons_succ, Act.put, List.setIfInBounds_toArray, List.set_cons_zero, List.set_cons_succ]
  refine wpAnyH_take (i := 3) (v := ?_) rfl (by kernel_rfl) (by kernel_rfl) (by kernel_rfl) (fun c x W h => hQ c _ _ _ W h) (Or.inl ⟨by go_simp, ?hy⟩) HS ?_
  case hy => intro W hW; go_simp; (try with_reducible rfl)
  try simp only [List.getElem_toArray, List.getElem_cons_zero, List.getElem_cons_succ, Act.put, List.setIfInBounds_toArray, List.set_cons_zero, List.set_cons_succ]
  refine wpAnyH_take (i := 4) (v := ?_) rfl (by kernel_rfl) (by kernel_rfl) (by kernel_rfl) (fun c x W h => hQ c _ _ _ W h) (Or.inl ⟨by go_simp, ?hy⟩) HS ?_
  case hy => intro W hW; go_simp; (try with_reducible rfl)
  try simp only [List.getElem_toArray, List.getElem_cons_zero, List.getElem_cons_succ, Act.put, List.setIfInBounds_toArray, List.set_cons_zero, List.set_cons_succ]
  refine wpAnyH_take (i := 5) (v := ?_) rfl (by kernel_rfl) (by kernel_rfl) (by kernel_rfl) (fun c x W h => hQ c _ _ _ W h) (Or.inl ⟨by go_simp, ?hy⟩) HS ?_
  case hy => intro W hW; have d := hW.2; go_simp; (try with_reducible rfl)
  try simp only [List.getElem_toArray, List.getElem_cons_zero, List.getElem_cons_succ, Act.put, List.setIfInBounds_toArray, List.set_cons_zero, List.set_cons_succ]
  refine wpAnyH_take (i := 6) (v := ?_) rfl (by kernel_rfl) (by kernel_rfl) (by kernel_rfl) (fun c x W h => hQ c _ _ _ W h) (Or.inl ⟨by go_simp, ?hy⟩) HS ?_
  case hy => intro W hW; go_simp; (try with_reducible rfl)
  try simp only [List.getElem_toArray, List.getElem_cons_zero, List.getElem_cons_succ, Act.put, List.setIfInBounds_toArray, List.set_cons_zero, List.set_cons_succ]
  refine wpAnyH_take (i := 7) (v := ?_) rfl (by kernel_rfl) (by kernel_rfl) (by kernel_rfl) (fun c x W h => hQ c _ _ _ W h) (Or.inl ⟨by go_simp, ?hy⟩) HS ?_
  case hy => intro W hW; go_simp; (try with_reducible rfl)
  try simp only [List.getElem_toArray, List.getElem_cons_zero, List.getElem_cons_succ, Act.put, List.setIfInBounds_toArray, List.set_cons_zero, List.set_cons_succ]
  refine wpAnyH_take (i := 8) (v := ?_) rfl (by kernel_rfl) (by kernel_rfl) (by kernel_rfl) (fun c x W h => hQ c _ _ _ W h) (Or.inl ⟨by go_simp, ?hy⟩) HS ?_
  case hy => intro W hW; go_simp; (try with_reducible rfl)
  try simp only [List.getElem_toArray, List.getElem_cons_zero, List.getElem_cons_succ, Act.put, List.setIfInBounds_toArray, List.set_cons_zero, List.set_cons_succ]
  refine wpAnyH_take (i := 9) (v := ?_) rfl (by kernel_rfl) (by kernel_rfl) (by kernel_rfl) (fun c x W h => hQ c _ _ _ W h) (Or.inl ⟨by go_simp, ?hy⟩) HS ?_
  case hy => intro W hW; go_simp; (try with_reducible rfl)
  try simp only [List.getElem_toArray, List.getElem_cons_zero, List.getElem_cons_succ, Act.put, List.setIfInBounds_toArray, List.set_cons_zero, List.set_cons_succ]
  refine wpAnyH_take (i := 10) (v := .agg P.toArray) rfl (by kernel_rfl) (by kernel_rfl) (by kernel_rfl) (fun c x W h => hQ c _ _ _ W h) (by refine yieldsIf_load_mid ?hw 43 (.tmp 92) ?ho b (o + i * 42 + 2) ?hx P _ (fun W hW => hW.1) Try.underlying43 rfl (by rw [HLEN.out]; exact HSZ.out); (case ho => rfl); (case hw => go_simp); (case hx => go_simp)) HS ?_
  try simp only [List.getElem_toArray, List.getElem_cons_zero, List.getElem_cons_succ, Act.put, List.setIfInBounds_toArray, List.set_cons_zero, List.set_cons_succ]
  refine wpAnyH_ready (rs := [11, 16]) (by kernel_rfl) (by simp) ?_
  refine AllReadyH.cons rfl (fun K hK => ?_) (AllReadyH.cons rfl (fun K hK => ?_) AllReadyH.nil)
  · skip
    rw [if_pos (by kernel_rfl)]
    simp only [List.getElem_toArray, List.getElem_cons_zero, List.getElem_cons_succ]
    go_simp
    refine (HCALL.out _ H0.out).mono ?_
    rintro e w1 ⟨rm', R', out, dr, L, hm, hadd, rfl, hz, hy⟩
    have HM := Lib.hid hm; have HADD := Lib.hid hadd; have HZ := Lib.hid hz; have HY := Lib.hid hy
    have hll := add_len (w' := w1) (Q := fun y A c => BodyAt w1 ⟨y, A, c⟩ ∧ (∀ g, A = some ⟨g, 0, none⟩ → W0.heap.size ≤ g) ∧ y.body.length ≤ 100000000) hz hy
    have HLL := Lib.hid hll.1; have HLO := Lib.hid hll.2
    have HS1 := Lib.hid (HSA.out W0 w1 rm' R' HS hm)
    clear hm hadd hz hy hll
    refine hK.out _ _ HS1.out (fun HS => ?_)
    clear hK
    try simp only [List.getElem_toArray, List.getElem_cons_zero, List.getElem_cons_succ, Act.put, List.setIfInBounds_toArray, List.set_cons_zero, List.set_cons_succ]
    refine wpAnyH_take (i := 12) (v := ?_) rfl (by kernel_rfl) (by kernel_rfl) (by kernel_rfl) (fun c x W h => hQ c _ _ _ W h) (Or.inl ⟨by go_simp, ?hy⟩) HS ?_
    case hy => intro W hW; go_simp; (try with_reducible rfl)
    try simp only [List.getElem_toArray, List.getElem_cons_zero, List.getElem_cons_succ, Act.put, List.setIfInBounds_toArray, List.set_cons_zero, List.set_cons_succ]
    refine wpAnyH_take (i := 13) (v := ?_) rfl (by kernel_rfl) (by kernel_rfl) (by kernel_rfl) (fun c x W h => hQ c _ _ _ W h) (Or.inl ⟨by go_simp, ?hy⟩) HS ?_
    case hy => intro W hW; go_simp; (try with_reducible rfl)
    try simp only [List.getElem_toArray, List.getElem_cons_zero, List.getElem_cons_succ, Act.put, List.setIfInBounds_toArray, List.set_cons_zero, List.set_cons_succ]
    refine wpAnyH_take (i := 14) (v := ?_) rfl (by kernel_rfl) (by kernel_rfl) (by kernel_rfl) (fun c x W h => hQ c _ _ _ W h) (Or.inl ⟨by go_simp, ?hy⟩) HS ?_
    case hy => intro W hW; go_simp; (try with_reducible rfl)
    try simp only [List.getElem_toArray, List.getElem_cons_zero, List.getElem_cons_succ, Act.put, List.setIfInBounds_toArray, List.set_cons_zero, List.set_cons_succ]
    refine wpAnyH_take (i := 15) (v := ?_) rfl (by kernel_rfl) (by kernel_rfl) (by kernel_rfl) (fun c x W h => hQ c _ _ _ W h) (Or.inl ⟨by go_simp, ?hy⟩) HS ?_
    case hy => intro W hW; go_simp; (try with_reducible rfl)
    try simp only [List.getElem_toArray, List.getElem_cons_zero, List.getElem_cons_succ, Act.put, List.setIfInBounds_toArray, List.set_cons_zero, List.set_cons_succ]
    refine wpAnyH_ready (rs := [16]) (by kernel_rfl) (by simp) ?_
    refine AllReadyH.cons rfl (fun K hK => ?_) AllReadyH.nil
    rw [if_pos (by kernel_rfl)]
    simp only [List.getElem_toArray, List.getElem_cons_zero, List.getElem_cons_succ]
    go_simp
    rw [zeroP_lit]
    refine hK.out _ _ (HSB.out _ _ HS1.out (HA.out _ _)) (fun HS => ?_)
    clear hK
    try simp only [List.getElem_toArray, List.getElem_cons_zero, List.getElem_cons_succ, Act.put, List.setIfInBounds_toArray, List.set_cons_zero, List.set_cons_succ]
    refine wpAnyH_ready (rs := [17]) (by kernel_rfl) (by simp) ?_
    refine AllReadyH.cons rfl (fun K hK => ?_) AllReadyH.nil
    rw [if_pos (by kernel_rfl)]
    simp only [List.getElem_toArray, List.getElem_cons_zero, List.getElem_cons_succ]
    refine wp_store_row 43 (.tmp 13) (.tmp 95) rfl w1.heap.size L.toArray rfl rfl 43 zeroP.toArray (heap_alloc_new w1 _) (by rw [List.size_toArray, HLL.out]; exact HSZ.out) (by rw [List.size_toArray, List.size_toArray, HLL.out, HZL.out]) (all_oneCell_toArray HLO.out) ?_
    rw [World.setRow_alloc_new]
    refine hK.out _ _ (HSB.out _ _ HS1.out (HA.out _ _)) (fun HS => ?_)
    clear hK
    try simp only [List.getElem_toArray, List.getElem_cons_zero, List.getElem_cons_succ, Act.put, List.setIfInBounds_toArray, List.set_cons_zero, List.set_cons_succ]
    refine wpAnyH_take (i := 18) (v := ?_) rfl (by kernel_rfl) (by kernel_rfl) (by kernel_rfl) (fun c x W h => hQ c _ _ _ W h) (Or.inl ⟨by go_simp, ?hy⟩) HS ?_
    case hy => intro W hW; go_simp; (try with_reducible rfl)
    try simp only [List.getElem_toArray, List.getElem_cons_zero, List.getElem_cons_succ, Act.put, List.setIfInBounds_toArray, List.set_cons_zero, List.set_cons_succ]
    refine wpAnyH_take (i := 19) (v := ?_) rfl (by kernel_rfl) (by kernel_rfl) (by kernel_rfl) (fun c x W h => hQ c _ _ _ W h) (Or.inl ⟨by go_simp, ?hy⟩) HS ?_
    case hy => intro W hW; go_simp; (try with_reducible rfl)
    try simp only [List.getElem_toArray, List.getElem_cons_zero, List.getElem_cons_succ, Act.put, List.setIfInBounds_toArray, List.set_cons_zero, List.set_cons_succ]
    refine wpAnyH_done (by kernel_rfl) ?_ _
    exact h _ _ _ _ _ _ _ _ _ _ _ _ _ _ _ _ _ _ _ _ _ _ (refbox_a H0.out HP.out HM.out HADD.out HZ.out HY.out)
  · skip
    rw [if_pos (by kernel_rfl)]
    simp only [List.getElem_toArray, List.getElem_cons_zero, List.getElem_cons_succ]
    go_simp
    rw [zeroP_lit]
    have x10 := heap_alloc_new W0 (.cells zeroP.toArray 43)
    have hsz : (W0.alloc (.cells zeroP.toArray 43)).heap.size = W0.heap.size + 1 := by simp
    have HB1 := Lib.hid (H0.out.trans ((HA.out W0 (.cells zeroP.toArray 43)).mono H0.out.size))
    have HS1 := Lib.hid (HSB.out _ _ HS (HA.out W0 (.cells zeroP.toArray 43)))
    obtain ⟨W1, hW1⟩ : ∃ W, W = W0.alloc (.cells zeroP.toArray 43) := ⟨_, rfl⟩
    rw [← hW1] at x10 hsz HB1 HS1 ⊢
    obtain ⟨g, hg⟩ : ∃ g, g = W0.heap.size := ⟨_, rfl⟩
    rw [← hg] at x10 hsz ⊢
    have HX10 := Lib.hid x10; have HG := Lib.hid hg; have HSZ1 := Lib.hid hsz
    clear x10 hsz hW1 hg
    refine hK.out _ _ HS1.out (fun HS => ?_)
    clear hK
    try simp only [List.getElem_toArray, List.getElem_cons_zero, List.getElem_cons_succ, Act.put, List.setIfInBounds_toArray, List.set_cons_zero, List.set_cons_succ]
    refine wpAnyH_ready (rs := [11]) (by kernel_rfl) (by simp) ?_
    refine AllReadyH.cons rfl (fun K hK => ?_) AllReadyH.nil
    rw [if_pos (by kernel_rfl)]
    simp only [List.getElem_toArray, List.getElem_cons_zero, List.getElem_cons_succ]
    go_simp
    refine (HCALL.out _ HB1.out).mono ?_
    rintro e w1 ⟨rm', R', out, dr, L, hm, hadd, rfl, hz, hy⟩
    have HM := Lib.hid hm; have HADD := Lib.hid hadd; have HZ := Lib.hid hz; have HY := Lib.hid hy
    have hll := add_len (w' := w1) (Q := fun y A c => BodyAt w1 ⟨y, A, c⟩ ∧ (∀ g, A = some ⟨g, 0, none⟩ → W1.heap.size ≤ g) ∧ y.body.length ≤ 100000000) hz hy
    have HLL := Lib.hid hll.1; have HLO := Lib.hid hll.2
    have HS2 := Lib.hid (HSA.out W1 w1 rm' R' HS hm)
    have HGL : Hid (w.heap.size ≤ g) := Lib.hid (by rw [HG.out]; exact H0.out.size)
    have HGZ : Hid (w1.heap[g]? = some (.cells zeroP.toArray 43 (0, 0))) := Lib.hid ((hm.kept.block g (lt_of_blk HX10.out) (fun hf => by have := HP.out.lt (.inl hf); have := HGL.out; omega)).trans HX10.out)
    clear hm hadd hz hy hll
    refine hK.out _ _ HS2.out (fun HS => ?_)
    clear hK
    try simp only [List.getElem_toArray, List.getElem_cons_zero, List.getElem_cons_succ, Act.put, List.setIfInBounds_toArray, List.set_cons_zero, List.set_cons_succ]
    refine wpAnyH_take (i := 12) (v := ?_) rfl (by kernel_rfl) (by kernel_rfl) (by kernel_rfl) (fun c x W h => hQ c _ _ _ W h) (Or.inl ⟨by go_simp, ?hy⟩) HS ?_
    case hy => intro W hW; go_simp; (try with_reducible rfl)
    try simp only [List.getElem_toArray, List.getElem_cons_zero, List.getElem_cons_succ, Act.put, List.setIfInBounds_toArray, List.set_cons_zero, List.set_cons_succ]
    refine wpAnyH_take (i := 13) (v := ?_) rfl (by kernel_rfl) (by kernel_rfl) (by kernel_rfl) (fun c x W h => hQ c _ _ _ W h) (Or.inl ⟨by go_simp, ?hy⟩) HS ?_
    case hy => intro W hW; go_simp; (try with_reducible rfl)
    try simp only [List.getElem_toArray, List.getElem_cons_zero, List.getElem_cons_succ, Act.put, List.setIfInBounds_toArray, List.set_cons_zero, List.set_cons_succ]
    refine wpAnyH_take (i := 14) (v := ?_) rfl (by kernel_rfl) (by kernel_rfl) (by kernel_rfl) (fun c x W h => hQ c _ _ _ W h) (Or.inl ⟨by go_simp, ?hy⟩) HS ?_
    case hy => intro W hW; go_simp; (try with_reducible rfl)
    try simp only [List.getElem_toArray, List.getElem_cons_zero, List.getElem_cons_succ, Act.put, List.setIfInBounds_toArray, List.set_cons_zero, List.set_cons_succ]
    refine wpAnyH_take (i := 15) (v := ?_) rfl (by kernel_rfl) (by kernel_rfl) (by kernel_rfl) (fun c x W h => hQ c _ _ _ W h) (Or.inl ⟨by go_simp, ?hy⟩) HS ?_
    case hy => intro W hW; go_simp; (try with_reducible rfl)
    try simp only [List.getElem_toArray, List.getElem_cons_zero, List.getElem_cons_succ, Act.put, List.setIfInBounds_toArray, List.set_cons_zero, List.set_cons_succ]
    refine wpAnyH_ready (rs := [17]) (by kernel_rfl) (by simp) ?_
    refine AllReadyH.cons rfl (fun K hK => ?_) AllReadyH.nil
    rw [if_pos (by kernel_rfl)]
    simp only [List.getElem_toArray, List.getElem_cons_zero, List.getElem_cons_succ]
    refine wp_store_row 43 (.tmp 13) (.tmp 95) rfl g L.toArray rfl rfl 43 zeroP.toArray HGZ.out (by rw [List.size_toArray, HLL.out]; exact HSZ.out) (by rw [List.size_toArray, List.size_toArray, HLL.out, HZL.out]) (all_oneCell_toArray HLO.out) ?_
    have HS3 : Hid ((w1.setRow g L.toArray).rangeAt b (o + i * 42 + 2) P ∧ (w1.setRow g L.toArray).cell? ⟨b, o + i * 42 + 1, none⟩ = some (.int .u64 (now : Int))) := Lib.hid (by
      have t := Turned.setRow HGZ.out L.toArray
      have := HGL.out
      exact ⟨fun j v hj => (World.cell?_of_block (w := w1) (a := ⟨b, o + i * 42 + 2 + j, none⟩) (t.other (k := b) (by have := HBL.out; omega))).trans (HS2.out.1 j v hj), (World.cell?_of_block (w := w1) (a := ⟨b, o + i * 42 + 1, none⟩) (t.other (k := b) (by have := HBL.out; omega))).trans HS2.out.2⟩)
    refine hK.out _ _ HS3.out (fun HS => ?_)
    clear hK
    try simp only [List.getElem_toArray, List.getElem_cons_zero, List.getElem_cons_succ, Act.put, List.setIfInBounds_toArray, List.set_cons_zero, List.set_cons_succ]
    refine wpAnyH_take (i := 18) (v := ?_) rfl (by kernel_rfl) (by kernel_rfl) (by kernel_rfl) (fun c x W h => hQ c _ _ _ W h) (Or.inl ⟨by go_simp, ?hy⟩) HS ?_
    case hy => intro W hW; go_simp; (try with_reducible rfl)
    try simp only [List.getElem_toArray, List.getElem_cons_zero, List.getElem_cons_succ, Act.put, List.setIfInBounds_toArray, List.set_cons_zero, List.set_cons_succ]
    refine wpAnyH_take (i := 19) (v := ?_) rfl (by kernel_rfl) (by kernel_rfl) (by kernel_rfl) (fun c x W h => hQ c _ _ _ W h) (Or.inl ⟨by go_simp, ?hy⟩) HS ?_
    case hy => intro W hW; go_simp; (try with_reducible rfl)
    try simp only [List.getElem_toArray, List.getElem_cons_zero, List.getElem_cons_succ, Act.put, List.setIfInBounds_toArray, List.set_cons_zero, List.set_cons_succ]
    refine wpAnyH_done (by kernel_rfl) ?_ _
    exact h _ _ _ _ _ _ _ _ _ _ _ _ _ _ _ _ _ _ _ _ _ _ (refbox_b HB1.out HP.out HGL.out (by rw [HSZ1.out]; omega) HGZ.out HM.out HADD.out HZ.out HY.out)
end Go.Proofs.Ytjldcblklbikaaa

/- FragsPlay: both answers are the same, and the packet was left as it was: the walk. No condition beyond those named. (Written out by exp.py.) -/
namespace Go.Proofs.Ytjldcblklbikaaa
open Go.RowKit
set_option linter.unusedVariables false
set_option linter.unusedSimpArgs false
set_option maxRecDepth 100000 in
set_option maxHeartbeats 8000000 in
theorem reg20 {b9 b o i n c ct gt g1 g2 c1 c2 : Nat} {P PX L1 L2 : List Value} {x y : Pk} {At A1 A2 : Option Addr} {p q : Bool} (w : World) (hx : PkAt P x (some ⟨gt, 0, none⟩) (x.body.length + 4)) (hbx : w.heap[b9]? = some (.cells P.toArray 43 (0, 0))) (hgt : w.heap[gt]? = some (.cells (row8 (twinL x.body 199)).toArray 5 (0, 0)))
    (hpx : PkAt PX x At ct) (hrng : w.rangeAt b (o + i * 42 + 2) PX) (hbl : b < w.heap.size) (hb : Bs w w.heap.size At ct x.body) (hl : x.body.length ≤ 50000) (hi : i < n) (hi9 : n ≤ 1000)
    (h1 : PkAt L1 y A1 c1) (h2 : PkAt L2 y A2 c2) (hx1 : w.heap[g1]? = some (.cells L1.toArray 43 (0, 0))) (hx2 : w.heap[g2]? = some (.cells L2.toArray 43 (0, 0))) (hb1 : Bs w w.heap.size A1 c1 y.body) (hb2 : Bs w w.heap.size A2 c2 y.body) (hyl : y.body.length ≤ 1000000000)
    {u1 u2 u3 u4 u5 u7 u8 u16 u17 u18 u19 u20 u21 u22 u23 u24 u25 u26 u27 u28 u29 u30 u31 u32 u33 u34 u35 u36 u37 u38 u39 u40 u41 u42 u43 u44 u45 u46 u47 u48 u49 u50 u51 u52 u53 u54 u55 u56 u57 u58 u59 u60 u61 u62 u63 u64 u65 u66 u67 u68 u69 u70 u71 u72 u73 u74 u75 u76 u77 u78 u79 u80 u81 u82 u83 u84 u85 u86 u87 u88 u89 u90 u91 u92 u93 u94 u95 u96 u97 u98 u99 u100 u101 u102 u103 u104 u105 u106 u107 u108 u109 u110 u111 u112 u113 u114 u115 u116 u117 u118 u119 u120 u121 u122 u123 u124 u125 u126 u127 u128 u129 u130 u131 u132 u133 u134 u135 u136 u137 u138 u139 u140 u141 u142 u143 u144 u145 u146 u147 u148 u149 u150 u151 u152 u153 u154 u155 u156 u157 u158 u159 u160 : Value} {Q : Exit → Act → World → Prop} (hQ : ∀ c (a : Act) d v W, Q (.panic c) (a.put d v) W → Q (.panic c) a W)
    (h : ∀ (r98 r99 r100 r101 r102 r103 r104 r105 r106 r107 r108 r109 r110 r111 r112 r113 r114 r115 r116 r117 r118 r119 r120 : Value) (W : World), Below w.heap.size w W → Q .normal ⟨(List.toArray (.slice (some ⟨b, o, none⟩) n c :: u1 :: u2 :: u3 :: u4 :: u5 :: .int .i64 (i : Nat) :: u7 :: u8 :: .pointer (some ⟨b9, 0, none⟩) :: .pointer (some ⟨g1, 0, none⟩) :: .bool p :: .bool q :: .pointer (some ⟨g2, 0, none⟩) :: .bool p :: .bool q :: u16 :: u17 :: u18 :: u19 :: u20 :: u21 :: u22 :: u23 :: u24 :: u25 :: u26 :: u27 :: u28 :: u29 :: u30 :: u31 :: u32 :: u33 :: u34 :: u35 :: u36 :: u37 :: u38 :: u39 :: u40 :: u41 :: u42 :: u43 :: u44 :: u45 :: u46 :: u47 :: u48 :: u49 :: u50 :: u51 :: u52 :: u53 :: u54 :: u55 :: u56 :: u57 :: u58 :: u59 :: u60 :: u61 :: u62 :: u63 :: u64 :: u65 :: u66 :: u67 :: u68 :: u69 :: u70 :: u71 :: u72 :: u73 :: u74 :: u75 :: u76 :: u77 :: u78 :: u79 :: u80 :: u81 :: u82 :: u83 :: u84 :: u85 :: u86 :: u87 :: u88 :: u89 :: u90 :: u91 :: u92 :: u93 :: u94 :: u95 :: u96 :: u97 :: r98 :: r99 :: r100 :: r101 :: r102 :: r103 :: r104 :: r105 :: r106 :: r107 :: r108 :: r109 :: r110 :: r111 :: r112 :: r113 :: r114 :: r115 :: r116 :: r117 :: r118 :: r119 :: r120 :: .bool false :: u122 :: u123 :: u124 :: u125 :: u126 :: u127 :: u128 :: u129 :: u130 :: u131 :: u132 :: u133 :: u134 :: u135 :: u136 :: u137 :: u138 :: u139 :: u140 :: u141 :: u142 :: u143 :: u144 :: u145 :: u146 :: u147 :: u148 :: u149 :: u150 :: u151 :: u152 :: u153 :: u154 :: u155 :: u156 :: u157 :: u158 :: u159 :: u160 :: [])), []⟩ W) :
    (codeAt [1, 1, 1, 1, 1, 0, 1, 0, 0, 1, 0, 0, 0, 1, 1, 1, 1, 1, 0, 0] (Try.f3.body.getD .skip)).wp Try.prog Q ⟨(List.toArray (.slice (some ⟨b, o, none⟩) n c :: u1 :: u2 :: u3 :: u4 :: u5 :: .int .i64 (i : Nat) :: u7 :: u8 :: .pointer (some ⟨b9, 0, none⟩) :: .pointer (some ⟨g1, 0, none⟩) :: .bool p :: .bool q :: .pointer (some ⟨g2, 0, none⟩) :: .bool p :: .bool q :: u16 :: u17 :: u18 :: u19 :: u20 :: u21 :: u22 :: u23 :: u24 :: u25 :: u26 :: u27 :: u28 :: u29 :: u30 :: u31 :: u32 :: u33 :: u34 :: u35 :: u36 :: u37 :: u38 :: u39 :: u40 :: u41 :: u42 :: u43 :: u44 :: u45 :: u46 :: u47 :: u48 :: u49 :: u50 :: u51 :: u52 :: u53 :: u54 :: u55 :: u56 :: u57 :: u58 :: u59 :: u60 :: u61 :: u62 :: u63 :: u64 :: u65 :: u66 :: u67 :: u68 :: u69 :: u70 :: u71 :: u72 :: u73 :: u74 :: u75 :: u76 :: u77 :: u78 :: u79 :: u80 :: u81 :: u82 :: u83 :: u84 :: u85 :: u86 :: u87 :: u88 :: u89 :: u90 :: u91 :: u92 :: u93 :: u94 :: u95 :: u96 :: u97 :: u98 :: u99 :: u100 :: u101 :: u102 :: u103 :: u104 :: u105 :: u106 :: u107 :: u108 :: u109 :: u110 :: u111 :: u112 :: u113 :: u114 :: u115 :: u116 :: u117 :: u118 :: u119 :: u120 :: u121 :: u122 :: u123 :: u124 :: u125 :: u126 :: u127 :: u128 :: u129 :: u130 :: u131 :: u132 :: u133 :: u134 :: u135 :: u136 :: u137 :: u138 :: u139 :: u140 :: u141 :: u142 :: u143 :: u144 :: u145 :: u146 :: u147 :: u148 :: u149 :: u150 :: u151 :: u152 :: u153 :: u154 :: u155 :: u156 :: u157 :: u158 :: u159 :: u160 :: [])), []⟩ w := by
  have HSZ := Lib.hid size43; have HLEN := Lib.hid hx.len; have HLX := Lib.hid hpx.len; have HL1 := Lib.hid h1.len; have HL2 := Lib.hid h2.len
  have HS18 : Hid (∀ W, Below w.heap.size w W → Calls Try.prog 18 #[.agg L1.toArray, .agg L2.toArray] W (BoolPost true W)) := Lib.hid fun W hW => same18 W h1 h2 ((hb1.below hW).mono hW.size) ((hb2.below hW).mono hW.size) hyl
  have HS19 : Hid (∀ W, Below w.heap.size w W → Calls Try.prog 19 #[.agg P.toArray, .agg PX.toArray] W (BoolPost true W)) := Lib.hid fun W hW => leftPacket19 W hx hpx ((hW.block gt (lt_of_blk hgt)).trans hgt) ((hb.below hW).mono hW.size) hl
  have HX9 : Hid (∀ W, Below w.heap.size w W → W.heap[b9]? = some (.cells P.toArray 43 (0, 0))) := Lib.hid fun W hW => (hW.block b9 (lt_of_blk hbx)).trans hbx
  have HX1 : Hid (∀ W, Below w.heap.size w W → W.heap[g1]? = some (.cells L1.toArray 43 (0, 0))) := Lib.hid fun W hW => (hW.block g1 (lt_of_blk hx1)).trans hx1
  have HX2 : Hid (∀ W, Below w.heap.size w W → W.heap[g2]? = some (.cells L2.toArray 43 (0, 0))) := Lib.hid fun W hW => (hW.block g2 (lt_of_blk hx2)).trans hx2
  have HRX : Hid (∀ W, Below w.heap.size w W → W.rangeAt b (o + i * 42 + 2) PX) := Lib.hid fun W hW => range_below hrng hbl hW
  have hS : Below w.heap.size w w.drew := (Below.refl _ _).drew
  have EP : Hid (binOp .neq 4 (.bool p) (.bool p) = pure (.bool false)) ∨ True := .inr trivial
  clear hx hbx hgt hpx hrng hbl hb hl h1 h2 hx1 hx2 hb1 hb2 hyl EP
  conv in codeAt _ _ => whnf
  refine wp_region_held_drew (S := fun W => Below w.heap.size w W) (by kernel_rfl) hS ?_
  clear hS
  intro HS
  refine wpAnyH_take (i := 0) (v := .agg L1.toArray) rfl (by kernel_rfl) (by kernel_rfl) (by kernel_rfl) (fun c x W h => hQ c _ _ _ W h) (by refine yieldsIf_load_mid ?hw 43 (.tmp 10) ?ho g1 0 ?hx L1 _ (fun W hW => row_of (HX1.out W hW)) Try.underlying43 rfl (by rw [HL1.out]; exact HSZ.out); (case ho => rfl); (case hw => go_simp); (case hx => go_simp)) HS ?_
  try simp only [List.getElem_toArray, List.getElem_cons_zero, List.getElem_cons_succ, Act.put, List.setIfInBounds_toArray, List.set_cons_zero, List.set_cons_succ]
  refine wpAnyH_take (i := 1) (v := .agg L2.toArray) rfl (by kernel_rfl) (by kernel_rfl) (by kernel_rfl) (fun c x W h => hQ c _ _ _ W h) (by refine yieldsIf_load_mid ?hw 43 (.tmp 13) ?ho g2 0 ?hx L2 _ (fun W hW => row_of (HX2.out W hW)) Try.underlying43 rfl (by rw [HL2.out]; exact HSZ.out); (case ho => rfl); (case hw => go_simp); (case hx => go_simp)) HS ?_
  try simp only [List.getElem_toArray, List.getElem_cons_zero, List.getElem_cons_succ, Act.put, List.setIfInBounds_toArray, List.set_cons_zero, List.set_cons_succ]
  refine wpAnyH_ready (rs := [2]) (by kernel_rfl) (by simp) ?_
  refine AllReadyH.cons rfl (fun K hK => ?_) AllReadyH.nil
  rw [if_pos (by kernel_rfl)]
  simp only [List.getElem_toArray, List.getElem_cons_zero, List.getElem_cons_succ]
  go_simp
  refine (HS18.out _ HS).mono ?_
  rintro e w1 ⟨rfl, hb1⟩
  have HW1 := Lib.hid (HS.trans (hb1.mono HS.size))
  clear hb1
  refine hK.out _ _ HW1.out (fun HS => ?_)
  clear hK
  try simp only [List.getElem_toArray, List.getElem_cons_zero, List.getElem_cons_succ, Act.put, List.setIfInBounds_toArray, List.set_cons_zero, List.set_cons_succ]
  refine wpAnyH_take (i := 3) (v := ?_) rfl (by kernel_rfl) (by kernel_rfl) (by kernel_rfl) (fun c x W h => hQ c _ _ _ W h) (Or.inl ⟨by go_simp, ?hy⟩) HS ?_
  case hy => intro W hW; go_simp; (try with_reducible rfl)
  try simp only [List.getElem_toArray, List.getElem_cons_zero, List.getElem_cons_succ, Act.put, List.setIfInBounds_toArray, List.set_cons_zero, List.set_cons_succ]
  refine wpAnyH_take (i := 4) (v := ?_) rfl (by kernel_rfl) (by kernel_rfl) (by kernel_rfl) (fun c x W h => hQ c _ _ _ W h) (Or.inl ⟨by go_simp, ?hy⟩) HS ?_
  case hy => intro W hW; go_simp; (try with_reducible rfl)
  try simp only [List.getElem_toArray, List.getElem_cons_zero, List.getElem_cons_succ, Act.put, List.setIfInBounds_toArray, List.set_cons_zero, List.set_cons_succ]
  refine wpAnyH_take (i := 5) (v := ?_) rfl (by kernel_rfl) (by kernel_rfl) (by kernel_rfl) (fun c x W h => hQ c _ _ _ W h) (Or.inl ⟨by go_simp, ?hy⟩) HS ?_
  case hy => intro W hW; go_simp; (try with_reducible rfl)
  try simp only [List.getElem_toArray, List.getElem_cons_zero, List.getElem_cons_succ, Act.put, List.setIfInBounds_toArray, List.set_cons_zero, List.set_cons_succ]
  refine wpAnyH_take (i := 6) (v := ?_) rfl (by kernel_rfl) (by kernel_rfl) (by kernel_rfl) (fun c x W h => hQ c _ _ _ W h) (Or.inl ⟨by go_simp, ?hy⟩) HS ?_
  case hy => intro W hW; go_simp; (try with_reducible rfl)
  try simp only [List.getElem_toArray, List.getElem_cons_zero, List.getElem_cons_succ, Act.put, List.setIfInBounds_toArray, List.set_cons_zero, List.set_cons_succ]
  refine wpAnyH_take (i := 7) (v := .bool false) rfl (by kernel_rfl) (by kernel_rfl) (by kernel_rfl) (fun c x W h => hQ c _ _ _ W h) (Or.inl ⟨by go_simp, fun W hW => by go_simp⟩) HS ?_
  try simp only [List.getElem_toArray, List.getElem_cons_zero, List.getElem_cons_succ, Act.put, List.setIfInBounds_toArray, List.set_cons_zero, List.set_cons_succ]
  refine wpAnyH_take (i := 8) (v := ?_) rfl (by kernel_rfl) (by kernel_rfl) (by kernel_rfl) (fun c x W h => hQ c _ _ _ W h) (Or.inl ⟨by go_simp, ?hy⟩) HS ?_
  case hy => intro W hW; go_simp; (try with_reducible rfl)
  try simp only [List.getElem_toArray, List.getElem_cons_zero, List.getElem_cons_succ, Act.put, List.setIfInBounds_toArray, List.set_cons_zero, List.set_cons_succ]
  refine wpAnyH_take (i := 9) (v := ?_) rfl (by kernel_rfl) (by kernel_rfl) (by kernel_rfl) (fun c x W h => hQ c _ _ _ W h) (Or.inl ⟨by go_simp, ?hy⟩) HS ?_
  case hy => intro W hW; go_simp; (try with_reducible rfl)
  try simp only [List.getElem_toArray, List.getElem_cons_zero, List.getElem_cons_succ, Act.put, List.setIfInBounds_toArray, List.set_cons_zero, List.set_cons_succ]
  refine wpAnyH_take (i := 10) (v := ?_) rfl (by kernel_rfl) (by kernel_rfl) (by kernel_rfl) (fun c x W h => hQ c _ _ _ W h) (Or.inl ⟨by go_simp, ?hy⟩) HS ?_
  case hy => intro W hW; go_simp; (try with_reducible rfl)
  try simp only [List.getElem_toArray, List.getElem_cons_zero, List.getElem_cons_succ, Act.put, List.setIfInBounds_toArray, List.set_cons_zero, List.set_cons_succ]
  refine wpAnyH_take (i := 11) (v := ?_) rfl (by kernel_rfl) (by kernel_rfl) (by kernel_rfl) (fun c x W h => hQ c _ _ _ W h) (Or.inl ⟨by go_simp, ?hy⟩) HS ?_
  case hy => intro W hW; go_simp; (try with_reducible rfl)
  try simp only [List.getElem_toArray, List.getElem_cons_zero, List.getElem_cons_succ, Act.put, List.setIfInBounds_toArray, List.set_cons_zero, List.set_cons_succ]
  refine wpAnyH_take (i := 12) (v := .bool false) rfl (by kernel_rfl) (by kernel_rfl) (by kernel_rfl) (fun c x W h => hQ c _ _ _ W h) (Or.inl ⟨by go_simp, fun W hW => by go_simp⟩) HS ?_
  try simp only [List.getElem_toArray, List.getElem_cons_zero, List.getElem_cons_succ, Act.put, List.setIfInBounds_toArray, List.set_cons_zero, List.set_cons_succ]
  refine wpAnyH_take (i := 13) (v := ?_) rfl (by kernel_rfl) (by kernel_rfl) (by kernel_rfl) (fun c x W h => hQ c _ _ _ W h) (Or.inl ⟨by go_simp, ?hy⟩) HS ?_
  case hy => intro W hW; go_simp; (try with_reducible rfl)
  try simp only [List.getElem_toArray, List.getElem_cons_zero, List.getElem_cons_succ, Act.put, List.setIfInBounds_toArray, List.set_cons_zero, List.set_cons_succ]
  refine wpAnyH_take (i := 14) (v := ?_) rfl (by kernel_rfl) (by kernel_rfl) (by kernel_rfl) (fun c x W h => hQ c _ _ _ W h) (Or.inl ⟨by go_simp, ?hy⟩) HS ?_
  case hy => intro W hW; go_simp; (try with_reducible rfl)
  try simp only [List.getElem_toArray, List.getElem_cons_zero, List.getElem_cons_succ, Act.put, List.setIfInBounds_toArray, List.set_cons_zero, List.set_cons_succ]
  refine wpAnyH_take (i := 15) (v := .agg P.toArray) rfl (by kernel_rfl) (by kernel_rfl) (by kernel_rfl) (fun c x W h => hQ c _ _ _ W h) (by refine yieldsIf_load_mid ?hw 43 (.tmp 9) ?ho b9 0 ?hx P _ (fun W hW => row_of (HX9.out W hW)) Try.underlying43 rfl (by rw [HLEN.out]; exact HSZ.out); (case ho => rfl); (case hw => go_simp); (case hx => go_simp)) HS ?_
  try simp only [List.getElem_toArray, List.getElem_cons_zero, List.getElem_cons_succ, Act.put, List.setIfInBounds_toArray, List.set_cons_zero, List.set_cons_succ]
  refine wpAnyH_take (i := 16) (v := ?_) rfl (by kernel_rfl) (by kernel_rfl) (by kernel_rfl) (fun c x W h => hQ c _ _ _ W h) (Or.inl ⟨by go_simp, ?hy⟩) HS ?_
  case hy => intro W hW; go_simp; (try with_reducible rfl)
  try simp only [List.getElem_toArray, List.getElem_cons_zero, List.getElem_cons_succ, Act.put, List.setIfInBounds_toArray, List.set_cons_zero, List.set_cons_succ]
  refine wpAnyH_take (i := 17) (v := ?_) rfl (by kernel_rfl) (by kernel_rfl) (by kernel_rfl) (fun c x W h => hQ c _ _ _ W h) (Or.inl ⟨by go_simp, ?hy⟩) HS ?_
  case hy => intro W hW; go_simp; (try with_reducible rfl)
  try simp only [List.getElem_toArray, List.getElem_cons_zero, List.getElem_cons_succ, Act.put, List.setIfInBounds_toArray, List.set_cons_zero, List.set_cons_succ]
  refine wpAnyH_take (i := 18) (v := ?_) rfl (by kernel_rfl) (by kernel_rfl) (by kernel_rfl) (fun c x W h => hQ c _ _ _ W h) (Or.inl ⟨by go_simp, ?hy⟩) HS ?_
  case hy => intro W hW; go_simp; (try with_reducible rfl)
  try simp only [List.getElem_toArray, List.getElem_cons_zero, List.getElem_cons_succ, Act.put, List.setIfInBounds_toArray, List.set_cons_zero, List.set_cons_succ]
  refine wpAnyH_take (i := 19) (v := ?_) rfl (by kernel_rfl) (by kernel_rfl) (by kernel_rfl) (fun c x W h => hQ c _ _ _ W h) (Or.inl ⟨by go_simp, ?hy⟩) HS ?_
  case hy => intro W hW; go_simp; (try with_reducible rfl)
  try simp only [List.getElem_toArray, List.getElem_cons_zero, List.getElem_cons_succ, Act.put, List.setIfInBounds_toArray, List.set_cons_zero, List.set_cons_succ]
  refine wpAnyH_take (i := 20) (v := .agg PX.toArray) rfl (by kernel_rfl) (by kernel_rfl) (by kernel_rfl) (fun c x W h => hQ c _ _ _ W h) (by refine yieldsIf_load_mid ?hw 43 (.tmp 117) ?ho b (o + i * 42 + 2) ?hx PX _ (fun W hW => HRX.out W hW) Try.underlying43 rfl (by rw [HLX.out]; exact HSZ.out); (case ho => rfl); (case hw => go_simp); (case hx => go_simp)) HS ?_
  try simp only [List.getElem_toArray, List.getElem_cons_zero, List.getElem_cons_succ, Act.put, List.setIfInBounds_toArray, List.set_cons_zero, List.set_cons_succ]
  refine wpAnyH_ready (rs := [21]) (by kernel_rfl) (by simp) ?_
  refine AllReadyH.cons rfl (fun K hK => ?_) AllReadyH.nil
  rw [if_pos (by kernel_rfl)]
  simp only [List.getElem_toArray, List.getElem_cons_zero, List.getElem_cons_succ]
  go_simp
  refine (HS19.out _ HS).mono ?_
  rintro e w2 ⟨rfl, hb2⟩
  have HW2 := Lib.hid (HS.trans (hb2.mono HS.size))
  clear hb2
  refine hK.out _ _ HW2.out (fun HS => ?_)
  clear hK
  try simp only [List.getElem_toArray, List.getElem_cons_zero, List.getElem_cons_succ, Act.put, List.setIfInBounds_toArray, List.set_cons_zero, List.set_cons_succ]
  refine wpAnyH_take (i := 22) (v := ?_) rfl (by kernel_rfl) (by kernel_rfl) (by kernel_rfl) (fun c x W h => hQ c _ _ _ W h) (Or.inl ⟨by go_simp, ?hy⟩) HS ?_
  case hy => intro W hW; go_simp; (try with_reducible rfl)
  try simp only [List.getElem_toArray, List.getElem_cons_zero, List.getElem_cons_succ, Act.put, List.setIfInBounds_toArray, List.set_cons_zero, List.set_cons_succ]
  refine wpAnyH_take (i := 23) (v := ?_) rfl (by kernel_rfl) (by kernel_rfl) (by kernel_rfl) (fun c x W h => hQ c _ _ _ W h) (Or.inl ⟨by go_simp, ?hy⟩) HS ?_
  case hy => intro W hW; go_simp; (try with_reducible rfl)
  try simp only [List.getElem_toArray, List.getElem_cons_zero, List.getElem_cons_succ, Act.put, List.setIfInBounds_toArray, List.set_cons_zero, List.set_cons_succ]
  refine wpAnyH_done (by kernel_rfl) ?_ _
  exact h _ _ _ _ _ _ _ _ _ _ _ _ _ _ _ _ _ _ _ _ _ _ _ _ HW2.out
end Go.Proofs.Ytjldcblklbikaaa

/- FragsPlay: both pools are of one length, and both say the same of when the next one's time is over: the walk. No condition beyond those named. (Written out by exp.py.) -/
namespace Go.Proofs.Ytjldcblklbikaaa
open Go.RowKit
set_option linter.unusedVariables false
set_option linter.unusedSimpArgs false
set_option maxRecDepth 100000 in
set_option maxHeartbeats 8000000 in
theorem reg27 {pb mb : Nat} {rv rm : Value} {D R : List Dg} (w : World) (hP : PoolAt w pb rv D) (hR : RefAt w mb rm R) (hab : D.map Dg.abs = R.map Dg.abs)
    {u0 u1 u2 u5 u6 u7 u8 u9 u10 u11 u12 u13 u14 u15 u16 u17 u18 u19 u20 u21 u22 u23 u24 u25 u26 u27 u28 u29 u30 u31 u32 u33 u34 u35 u36 u37 u38 u39 u40 u41 u42 u43 u44 u45 u46 u47 u48 u49 u50 u51 u52 u53 u54 u55 u56 u57 u58 u59 u60 u61 u62 u63 u64 u65 u66 u67 u68 u69 u70 u71 u72 u73 u74 u75 u76 u77 u78 u79 u80 u81 u82 u83 u84 u85 u86 u87 u88 u89 u90 u91 u92 u93 u94 u95 u96 u97 u98 u99 u100 u101 u102 u103 u104 u105 u106 u107 u108 u109 u110 u111 u112 u113 u114 u115 u116 u117 u118 u119 u120 u121 u122 u123 u124 u125 u126 u127 u128 u129 u130 u131 u132 u133 u134 u135 u136 u137 u138 u139 u140 u141 u142 u143 u144 u145 u146 u147 u148 u149 u150 u151 u152 u153 u154 u155 u156 u157 u158 u159 u160 : Value} {Q : Exit → Act → World → Prop} (hQ : ∀ c (a : Act) d v W, Q (.panic c) (a.put d v) W → Q (.panic c) a W)
    (h : ∀ (r142 r143 r144 r145 r146 r147 r148 r149 r150 r151 r152 r153 r154 r155 : Value), Q .normal ⟨(List.toArray (u0 :: u1 :: u2 :: .pointer (some ⟨pb, 0, none⟩) :: .pointer (some ⟨mb, 0, none⟩) :: u5 :: u6 :: u7 :: u8 :: u9 :: u10 :: u11 :: u12 :: u13 :: u14 :: u15 :: u16 :: u17 :: u18 :: u19 :: u20 :: u21 :: u22 :: u23 :: u24 :: u25 :: u26 :: u27 :: u28 :: u29 :: u30 :: u31 :: u32 :: u33 :: u34 :: u35 :: u36 :: u37 :: u38 :: u39 :: u40 :: u41 :: u42 :: u43 :: u44 :: u45 :: u46 :: u47 :: u48 :: u49 :: u50 :: u51 :: u52 :: u53 :: u54 :: u55 :: u56 :: u57 :: u58 :: u59 :: u60 :: u61 :: u62 :: u63 :: u64 :: u65 :: u66 :: u67 :: u68 :: u69 :: u70 :: u71 :: u72 :: u73 :: u74 :: u75 :: u76 :: u77 :: u78 :: u79 :: u80 :: u81 :: u82 :: u83 :: u84 :: u85 :: u86 :: u87 :: u88 :: u89 :: u90 :: u91 :: u92 :: u93 :: u94 :: u95 :: u96 :: u97 :: u98 :: u99 :: u100 :: u101 :: u102 :: u103 :: u104 :: u105 :: u106 :: u107 :: u108 :: u109 :: u110 :: u111 :: u112 :: u113 :: u114 :: u115 :: u116 :: u117 :: u118 :: u119 :: u120 :: u121 :: u122 :: u123 :: u124 :: u125 :: u126 :: u127 :: u128 :: u129 :: u130 :: u131 :: u132 :: u133 :: u134 :: u135 :: u136 :: u137 :: u138 :: u139 :: u140 :: u141 :: r142 :: r143 :: r144 :: r145 :: r146 :: r147 :: r148 :: r149 :: r150 :: r151 :: r152 :: r153 :: r154 :: r155 :: .bool false :: u157 :: u158 :: u159 :: u160 :: [])), []⟩ w.drew) :
    (codeAt [1, 1, 1, 1, 1, 0, 1, 0, 0, 1, 0, 0, 1, 0] (Try.f3.body.getD .skip)).wp Try.prog Q ⟨(List.toArray (u0 :: u1 :: u2 :: .pointer (some ⟨pb, 0, none⟩) :: .pointer (some ⟨mb, 0, none⟩) :: u5 :: u6 :: u7 :: u8 :: u9 :: u10 :: u11 :: u12 :: u13 :: u14 :: u15 :: u16 :: u17 :: u18 :: u19 :: u20 :: u21 :: u22 :: u23 :: u24 :: u25 :: u26 :: u27 :: u28 :: u29 :: u30 :: u31 :: u32 :: u33 :: u34 :: u35 :: u36 :: u37 :: u38 :: u39 :: u40 :: u41 :: u42 :: u43 :: u44 :: u45 :: u46 :: u47 :: u48 :: u49 :: u50 :: u51 :: u52 :: u53 :: u54 :: u55 :: u56 :: u57 :: u58 :: u59 :: u60 :: u61 :: u62 :: u63 :: u64 :: u65 :: u66 :: u67 :: u68 :: u69 :: u70 :: u71 :: u72 :: u73 :: u74 :: u75 :: u76 :: u77 :: u78 :: u79 :: u80 :: u81 :: u82 :: u83 :: u84 :: u85 :: u86 :: u87 :: u88 :: u89 :: u90 :: u91 :: u92 :: u93 :: u94 :: u95 :: u96 :: u97 :: u98 :: u99 :: u100 :: u101 :: u102 :: u103 :: u104 :: u105 :: u106 :: u107 :: u108 :: u109 :: u110 :: u111 :: u112 :: u113 :: u114 :: u115 :: u116 :: u117 :: u118 :: u119 :: u120 :: u121 :: u122 :: u123 :: u124 :: u125 :: u126 :: u127 :: u128 :: u129 :: u130 :: u131 :: u132 :: u133 :: u134 :: u135 :: u136 :: u137 :: u138 :: u139 :: u140 :: u141 :: u142 :: u143 :: u144 :: u145 :: u146 :: u147 :: u148 :: u149 :: u150 :: u151 :: u152 :: u153 :: u154 :: u155 :: u156 :: u157 :: u158 :: u159 :: u160 :: [])), []⟩ w := by
  obtain ⟨W0, hW0⟩ : ∃ W, W = w.drew := ⟨_, rfl⟩
  have h0 : Below w.heap.size w W0 := by rw [hW0]; exact (Below.refl _ _).drew
  obtain ⟨A, c, hrm, -⟩ := hR.gets
  have e0 : w.cell? ⟨mb, 0, none⟩ = some (.slice A R.length c) := by rw [cell_blk hR.blk, hrm]; rfl
  have c0 : W0.cell? ⟨mb, 0, none⟩ = some (.slice A R.length c) := (h0.cell (p := ⟨mb, 0, none⟩) (lt_of_cell e0)).trans e0
  have HLEN := Lib.hid (len20 W0 (hP.below h0))
  have HN1 := Lib.hid (next21 W0 (hP.below h0))
  have HN2 := Lib.hid (next22 W0 (hR.below h0))
  rw [abs_len hab] at HLEN
  rw [abs_over hab] at HN1
  obtain ⟨n, hn⟩ : ∃ n, n = R.length := ⟨_, rfl⟩
  obtain ⟨m, hm⟩ : ∃ m, m = nextN 9223372036854775807 (R.map (·.over)) := ⟨_, rfl⟩
  rw [← hn] at HLEN c0
  rw [← hm] at HN1 HN2
  clear hP hR hab h0 hrm e0 hn hm
  rw [← hW0] at h
  conv in codeAt _ _ => whnf
  refine wp_region_held_drew (S := fun W => W = W0) (by kernel_rfl) hW0.symm ?_
  rw [← hW0]
  clear hW0
  intro HS
  clear HS
  have HS : (fun W => W = W0) W0 := rfl
  refine wpAnyH_take (i := 0) (v := ?_) rfl (by kernel_rfl) (by kernel_rfl) (by kernel_rfl) (fun c x W h => hQ c _ _ _ W h) (Or.inl ⟨by go_simp, ?hy⟩) HS ?_
  case hy => intro W hW; go_simp; (try with_reducible rfl)
  try simp only [List.getElem_toArray, List.getElem_cons_zero, List.getElem_cons_succ, Act.put, List.setIfInBounds_toArray, List.set_cons_zero, List.set_cons_succ]
  refine wpAnyH_take (i := 2) (v := ?_) rfl (by kernel_rfl) (by kernel_rfl) (by kernel_rfl) (fun c x W h => hQ c _ _ _ W h) (Or.inl ⟨by go_simp, ?hy⟩) HS ?_
  case hy => intro W hW; go_simp; (try with_reducible rfl)
  try simp only [List.getElem_toArray, List.getElem_cons_zero, List.getElem_cons_succ, Act.put, List.setIfInBounds_toArray, List.set_cons_zero, List.set_cons_succ]
  refine wpAnyH_take (i := 3) (v := ?_) rfl (by kernel_rfl) (by kernel_rfl) (by kernel_rfl) (fun c x W h => hQ c _ _ _ W h) (Or.inl ⟨by go_simp, ?hy⟩) HS ?_
  case hy => intro W hW; go_simp; (try with_reducible rfl)
  try simp only [List.getElem_toArray, List.getElem_cons_zero, List.getElem_cons_succ, Act.put, List.setIfInBounds_toArray, List.set_cons_zero, List.set_cons_succ]
  refine wpAnyH_take (i := 4) (v := ?_) rfl (by kernel_rfl) (by kernel_rfl) (by kernel_rfl) (fun c x W h => hQ c _ _ _ W h) (Or.inl ⟨by go_simp, ?hy⟩) HS ?_
  case hy => intro W hW; go_simp; (try with_reducible rfl)
  try simp only [List.getElem_toArray, List.getElem_cons_zero, List.getElem_cons_succ, Act.put, List.setIfInBounds_toArray, List.set_cons_zero, List.set_cons_succ]
  refine wpAnyH_take (i := 5) (v := ?_) rfl (by kernel_rfl) (by kernel_rfl) (by kernel_rfl) (fun c x W h => hQ c _ _ _ W h) (Or.inl ⟨by go_simp, ?hy⟩) HS ?_
  case hy => intro W hW; subst hW; go_simp; (try with_reducible rfl)
  try simp only [List.getElem_toArray, List.getElem_cons_zero, List.getElem_cons_succ, Act.put, List.setIfInBounds_toArray, List.set_cons_zero, List.set_cons_succ]
  refine wpAnyH_take (i := 6) (v := ?_) rfl (by kernel_rfl) (by kernel_rfl) (by kernel_rfl) (fun c x W h => hQ c _ _ _ W h) (Or.inl ⟨by go_simp, ?hy⟩) HS ?_
  case hy => intro W hW; go_simp; (try with_reducible rfl)
  try simp only [List.getElem_toArray, List.getElem_cons_zero, List.getElem_cons_succ, Act.put, List.setIfInBounds_toArray, List.set_cons_zero, List.set_cons_succ]
  refine wpAnyH_ready (rs := [1]) (by kernel_rfl) (by simp) ?_
  refine AllReadyH.cons rfl (fun K hK => ?_) AllReadyH.nil
  rw [if_pos (by kernel_rfl)]
  simp only [List.getElem_toArray, List.getElem_cons_zero, List.getElem_cons_succ]
  go_simp
  refine (HLEN.out).mono ?_
  rintro e w1 ⟨rfl, hw1⟩
  refine hK.out _ _ hw1.symm (fun HS => ?_)
  clear hK
  rw [← hw1]
  clear hw1 HS
  have HS : (fun W => W = W0) W0 := rfl
  try simp only [List.getElem_toArray, List.getElem_cons_zero, List.getElem_cons_succ, Act.put, List.setIfInBounds_toArray, List.set_cons_zero, List.set_cons_succ]
  refine wpAnyH_take (i := 7) (v := .bool false) rfl (by kernel_rfl) (by kernel_rfl) (by kernel_rfl) (fun c x W h => hQ c _ _ _ W h) (Or.inl ⟨by go_simp, fun W hW => by go_simp⟩) HS ?_
  try simp only [List.getElem_toArray, List.getElem_cons_zero, List.getElem_cons_succ, Act.put, List.setIfInBounds_toArray, List.set_cons_zero, List.set_cons_succ]
  refine wpAnyH_take (i := 8) (v := ?_) rfl (by kernel_rfl) (by kernel_rfl) (by kernel_rfl) (fun c x W h => hQ c _ _ _ W h) (Or.inl ⟨by go_simp, ?hy⟩) HS ?_
  case hy => intro W hW; go_simp; (try with_reducible rfl)
  try simp only [List.getElem_toArray, List.getElem_cons_zero, List.getElem_cons_succ, Act.put, List.setIfInBounds_toArray, List.set_cons_zero, List.set_cons_succ]
  refine wpAnyH_take (i := 9) (v := ?_) rfl (by kernel_rfl) (by kernel_rfl) (by kernel_rfl) (fun c x W h => hQ c _ _ _ W h) (Or.inl ⟨by go_simp, ?hy⟩) HS ?_
  case hy => intro W hW; go_simp; (try with_reducible rfl)
  try simp only [List.getElem_toArray, List.getElem_cons_zero, List.getElem_cons_succ, Act.put, List.setIfInBounds_toArray, List.set_cons_zero, List.set_cons_succ]
  refine wpAnyH_take (i := 11) (v := ?_) rfl (by kernel_rfl) (by kernel_rfl) (by kernel_rfl) (fun c x W h => hQ c _ _ _ W h) (Or.inl ⟨by go_simp, ?hy⟩) HS ?_
  case hy => intro W hW; go_simp; (try with_reducible rfl)
  try simp only [List.getElem_toArray, List.getElem_cons_zero, List.getElem_cons_succ, Act.put, List.setIfInBounds_toArray, List.set_cons_zero, List.set_cons_succ]
  refine wpAnyH_ready (rs := [10]) (by kernel_rfl) (by simp) ?_
  refine AllReadyH.cons rfl (fun K hK => ?_) AllReadyH.nil
  rw [if_pos (by kernel_rfl)]
  simp only [List.getElem_toArray, List.getElem_cons_zero, List.getElem_cons_succ]
  go_simp
  refine (HN1.out).mono ?_
  rintro e w1 ⟨rfl, hw1⟩
  refine hK.out _ _ hw1.symm (fun HS => ?_)
  clear hK
  rw [← hw1]
  clear hw1 HS
  have HS : (fun W => W = W0) W0 := rfl
  try simp only [List.getElem_toArray, List.getElem_cons_zero, List.getElem_cons_succ, Act.put, List.setIfInBounds_toArray, List.set_cons_zero, List.set_cons_succ]
  refine wpAnyH_ready (rs := [12]) (by kernel_rfl) (by simp) ?_
  refine AllReadyH.cons rfl (fun K hK => ?_) AllReadyH.nil
  rw [if_pos (by kernel_rfl)]
  simp only [List.getElem_toArray, List.getElem_cons_zero, List.getElem_cons_succ]
  go_simp
  refine (HN2.out).mono ?_
  rintro e w1 ⟨rfl, hw1⟩
  refine hK.out _ _ hw1.symm (fun HS => ?_)
  clear hK
  rw [← hw1]
  clear hw1 HS
  have HS : (fun W => W = W0) W0 := rfl
  try simp only [List.getElem_toArray, List.getElem_cons_zero, List.getElem_cons_succ, Act.put, List.setIfInBounds_toArray, List.set_cons_zero, List.set_cons_succ]
  refine wpAnyH_take (i := 13) (v := .bool false) rfl (by kernel_rfl) (by kernel_rfl) (by kernel_rfl) (fun c x W h => hQ c _ _ _ W h) (Or.inl ⟨by go_simp, fun W hW => by go_simp⟩) HS ?_
  try simp only [List.getElem_toArray, List.getElem_cons_zero, List.getElem_cons_succ, Act.put, List.setIfInBounds_toArray, List.set_cons_zero, List.set_cons_succ]
  refine wpAnyH_take (i := 14) (v := ?_) rfl (by kernel_rfl) (by kernel_rfl) (by kernel_rfl) (fun c x W h => hQ c _ _ _ W h) (Or.inl ⟨by go_simp, ?hy⟩) HS ?_
  case hy => intro W hW; go_simp; (try with_reducible rfl)
  try simp only [List.getElem_toArray, List.getElem_cons_zero, List.getElem_cons_succ, Act.put, List.setIfInBounds_toArray, List.set_cons_zero, List.set_cons_succ]
  refine wpAnyH_done (by kernel_rfl) ?_ _
  exact h _ _ _ _ _ _ _ _ _ _ _ _ _ _
end Go.Proofs.Ytjldcblklbikaaa
