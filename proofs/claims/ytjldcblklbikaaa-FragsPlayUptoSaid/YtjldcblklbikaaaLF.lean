/- FragsPlay: the walk. No condition but that the acts are read, and few bytes in all (the bounds of the second form). (Written out by exp.py.) -/
import Derived.Test.YtjldcblklbikaaaLD
import Derived.Test.YtjldcblklbikaaaRM
import Derived.Test.YtjldcblklbikaaaLives
namespace Go.Proofs.Ytjldcblklbikaaa
open Go.RowKit
set_option linter.unusedVariables false
set_option linter.unusedSimpArgs false
/-- what stands behind both calls of Add -/
structure Both (w0 : World) (pb mb kb : Nat) (rv rm : Value) (D R : List Dg) (S : List Span) (N g1 g2 : Nat) (y : Pk) (L1 L2 : List Value) (A1 A2 : Option Addr) (c1 c2 : Nat) (W : World) : Prop where
  pm : PM w0 pb mb kb rv rm D R S W
  abs : D.map Dg.abs = R.map Dg.abs
  good : Good (D.map Dg.abs)
  p1 : PkAt L1 y A1 c1
  p2 : PkAt L2 y A2 c2
  x1 : W.heap[g1]? = some (.cells L1.toArray 43 (0, 0))
  x2 : W.heap[g2]? = some (.cells L2.toArray 43 (0, 0))
  b1 : BodyAt W ⟨y, A1, c1⟩
  b2 : Bs W W.heap.size A2 c2 y.body
  new : ∀ g, A1 = some ⟨g, 0, none⟩ → N ≤ g ∧ ¬ bods D g
  len : y.body.length ≤ 100000000
theorem nil_body (W : World) : BodyAt W ⟨nilPk, none, 0⟩ := ⟨⟨RdL.nil, Nat.le_refl _, fun _ => ⟨rfl, rfl⟩, Nat.zero_le _⟩, .inl rfl⟩
theorem both_of {w0 W3 W4 W5 : World} {pb mb kb now g1 g2 : Nat} {x : Pk} {rv rv' rm rm' : Value} {D D' R R' : List Dg} {S : List Span} {out out2 : Option Pk} {dr dr2 : Bool} (h : PM w0 pb mb kb rv rm D R S W3) (hab : D.map Dg.abs = R.map Dg.abs) (hg : Good (D.map Dg.abs)) (b : AddBox pb rv D now x W3 g1 rv' D' out dr W4) (r : RefBox mb rm R now x W4 g2 rm' R' out2 dr2 W5) :
    out = out2 ∧ dr = dr2 ∧ ∃ y L1 L2 A1 A2 c1 c2, Both w0 pb mb kb rv' rm' D' R' S W3.heap.size g1 g2 y L1 L2 A1 A2 c1 c2 W5 := by
  have h4 := h.add b.mem
  have hadd2 := r.add
  rw [← hab] at hadd2
  obtain ⟨e1, e2, e3⟩ := AddS.fun_ hg b.add hadd2
  subst e2
  have hg1l : g1 < W4.heap.size := by
    obtain ⟨L, hL, _⟩ := b.box
    exact lt_of_blk hL
  have hf1 : ¬ rfoot mb rm R g1 := fun hf => by have := h.ref.lt (.inl hf); have := b.fresh; omega
  refine ⟨rfl, e3, ?_⟩
  obtain ⟨L1, x1, z1, y1⟩ := b.box
  obtain ⟨L2, x2, z2, y2⟩ := r.box
  have x1' := (r.mem.kept.block g1 hg1l hf1).trans x1
  cases out with
  | none =>
    rw [z1 rfl] at x1'; rw [z2 rfl] at x2
    exact ⟨nilPk, zeroP, zeroP, none, none, 0, 0, h4.refd r.mem, e1, b.add.good hg, ⟨rfl, nilPk_ok⟩, ⟨rfl, nilPk_ok⟩, x1', x2, nil_body _, (nil_body _).bs, fun g e => (by cases e), Nat.zero_le _⟩
  | some y =>
    obtain ⟨A1, c1, e1', ok1, bd1, n1, l1⟩ := y1 y rfl
    obtain ⟨A2, c2, e2', ok2, bd2, l2⟩ := y2 y rfl
    refine ⟨y, L1, L2, A1, A2, c1, c2, h4.refd r.mem, e1, b.add.good hg, ⟨e1', ok1⟩, ⟨e2', ok2⟩, x1', x2, bd1.keep (fun k hk => ?_) r.mem.kept.size, bd2.bs, n1, l1⟩
    obtain ⟨cu, hc⟩ := body_type bd1 hk
    exact r.mem.kept.block k (lt_of_blk hc) (fun hf => rfoot_not h4.ref hc (.inl rfl) hf)
/-- a box that is none of the pools' stays -/
theorem stay_both {W3 W4 W5 : World} {pb mb now g1 g2 k : Nat} {x : Pk} {rv rv' rm rm' : Value} {D D' R R' : List Dg} {out out2 : Option Pk} {dr dr2 : Bool} {ob : Obj} (b : AddBox pb rv D now x W3 g1 rv' D' out dr W4) (r : RefBox mb rm R now x W4 g2 rm' R' out2 dr2 W5) (hk : W3.heap[k]? = some ob) (h1 : ¬ foot pb rv D k) (h2 : ¬ rfoot mb rm R k) : W5.heap[k]? = some ob := by
  have e4 := (b.mem.kept.block k (lt_of_blk hk) h1).trans hk
  exact (r.mem.kept.block k (lt_of_blk e4) h2).trans e4
/-- the packet's own bytes, turned one by one -/
structure TB (W : World) (b9 gt m : Nat) (P : List Value) (i : Nat) : Prop where
  box : W.heap[b9]? = some (.cells P.toArray 43 (0, 0))
  row : ∃ cur : Array Value, W.heap[gt]? = some (.cells cur 5 (0, 0)) ∧ cur.size = m + 4 ∧ ∀ q, i ≤ q → q < m → ∃ u : Nat, u < 256 ∧ cur[q]? = some (.int .u8 (u : Int))
theorem twin_tb {W : World} {b9 gt : Nat} {P : List Value} {l : List Nat} (hb : W.heap[b9]? = some (.cells P.toArray 43 (0, 0))) (hg : W.heap[gt]? = some (.cells (row8 (twinL l 199)).toArray 5 (0, 0))) (h8 : ∀ x ∈ l, x < 256) : TB W b9 gt l.length P 0 := by
  refine ⟨hb, _, hg, by rw [List.size_toArray, row8_length, twinL_length], fun q _ hq => ?_⟩
  have hq2 : l[q]? = some (l[q]'hq) := List.getElem?_eq_getElem hq
  refine ⟨l[q]'hq, h8 _ (List.getElem_mem _), ?_⟩
  rw [List.getElem?_toArray]
  refine row8_get ?_
  unfold twinL
  first
    | (rw [List.getElem?_append_left hq]; exact hq2)
    | (rw [List.append_assoc, List.getElem?_append_left hq]; exact hq2)
set_option maxRecDepth 100000 in
set_option maxHeartbeats 8000000 in
theorem fragsPlay_walk {A : Option Addr} {c : Nat} {L : List Ac} (w : World) (h : ActsRd w w.heap.size A L) :
    Calls Try.prog 3 #[.slice A L.length c] w fun e w' => e = .returned (.bool true) ∧ Below w.heap.size w w' := by
  have HA := Lib.hid h
  have HG := Lib.hid (great8 (c := c) w h)
  obtain ⟨n, hn⟩ : ∃ n, n = L.length := ⟨_, rfl⟩
  have HN := Lib.hid hn
  rw [← hn] at HG ⊢
  clear h hn
  go_enter Try.func3, Try.ntmps3
  go_wp2_with fail
  refine (HG.out).mono ?_
  rintro e w1 ⟨g, rfl, rfl, hg⟩
  cases g with
  | true =>
    go_wp2_with fail
    refine (lives_any _).mono ?_
    rintro e3 w3 ⟨rfl, hb3⟩
    go_wp2_with fail
    go_ret
    exact ⟨rfl, hb3⟩
  | false =>
    have HSM := Lib.hid (hg rfl)
    clear hg HG
    have H10 := Lib.hid (new10 w)
    go_wp2_with fail
    refine (H10.out).mono ?_
    rintro e w2 ⟨rfl, hp2, hb2, hs2⟩
    have HPM := Lib.hid (PM.start hp2 hb2 hs2)
    clear hp2 hb2 hs2 H10
    obtain ⟨pb, hpb⟩ : ∃ b, b = w.heap.size := ⟨_, rfl⟩
    rw [← hpb]
    obtain ⟨mb, hmb⟩ : ∃ b, b = w2.heap.size := ⟨_, rfl⟩
    obtain ⟨kb, hkb⟩ : ∃ b, b = w2.heap.size + 1 := ⟨_, rfl⟩
    obtain ⟨W, hW⟩ : ∃ W, W = (w2.alloc (.cells #[.slice none 0 0] 30)).alloc (.cells #[.slice none 0 0] 33) := ⟨_, rfl⟩
    have HPM1 : Hid (PM w pb mb kb (.slice none 0 0) (.slice none 0 0) [] [] [] W) := Lib.hid (by rw [hpb, hmb, hkb, hW]; exact HPM.out)
    have hn150 : n ≤ 150 := by have := HSM.out.1; have := HN.out; omega
    clear HPM hpb
    go_upto_region 6 with (fail)
    rw [← hkb, ← hmb, ← hW]
    clear hkb hmb hW
    go_wp2_with fail
    go_loopw [6] (fun i wr => ∃ (k : Nat) (rv rm : Value) (D R : List Dg) (S : List Span), k ≤ n ∧ i = .int .i64 k ∧ PM w pb mb kb rv rm D R S wr ∧ D.map Dg.abs = R.map Dg.abs ∧ Good (D.map Dg.abs) ∧ S.length ≤ 4 * k) (fun i _ => n - (intOf i).toNat)
    case atStart => exact ⟨0, _, _, [], [], [], Nat.zero_le _, rfl, HPM1.out, rfl, Good.nil, Nat.le_refl _⟩
    case round =>
      clear HPM1
      obtain ⟨k, rv, rm, D, R, S, hk, rfl, hpm, hab, hgd, hS⟩ := hrel
      have HPM := Lib.hid hpm; have HAB := Lib.hid hab; have HGD := Lib.hid hgd; have HSL := Lib.hid hS
      clear hpm hab hgd hS
      by_cases hlt : k < n
      · obtain ⟨a, ha⟩ : ∃ a, L[k]? = some a := ⟨L[k]'(by rw [← HN.out]; exact hlt), List.getElem?_eq_getElem _⟩
        have HAK := Lib.hid ha
        have hae := HA.out.each a (List.mem_of_getElem? ha)
        have HAE := Lib.hid hae
        have HAT : Hid (a.x.pk.body.length ≤ 40000) := Lib.hid (by have := totA_mem (List.mem_of_getElem? ha); have := HSM.out.2; omega)
        obtain ⟨b, o, rfl, hb, hc⟩ := HA.out.at_ (by rintro h0; rw [h0] at ha; simp at ha)
        have HCB : Hid (∀ W, Below w.heap.size w W → W.cell? ⟨b, o + k * 42, none⟩ = some (.bool a.tick) ∧ W.cell? ⟨b, o + k * 42 + 1, none⟩ = some (.int .u64 (a.now : Int)) ∧ W.rangeAt b (o + k * 42 + 2) a.x.cells) := Lib.hid fun W hW => by
          have h1 := Ac.get (hc k a ha)
          exact ⟨(hW.cell (p := ⟨b, o + k * 42, none⟩) hb).trans h1.1, (hW.cell (p := ⟨b, o + k * 42 + 1, none⟩) hb).trans h1.2.1, range_below h1.2.2 hb hW⟩
        have HBW := Lib.hid hb
        have c0 := (HCB.out wr HPM.out.below).1
        have c1 := (HCB.out wr HPM.out.below).2.1
        obtain ⟨tk, htk⟩ : ∃ t, t = a.tick := ⟨_, rfl⟩
        rw [← htk] at c0
        obtain ⟨now, hnow⟩ : ∃ t, t = a.now := ⟨_, rfl⟩
        rw [← hnow] at c1 HCB
        have HNOW : Hid (now < 18446744073709551616) := Lib.hid (by rw [hnow]; exact HAE.out.2.2.2)
        have HTK := Lib.hid htk
        clear ha hae hb hc htk hnow
        go_upto_if 34 with (fail)
        go_cut [] (fun wx => ∃ (rv rm : Value) (D R : List Dg) (S : List Span), PM w pb mb kb rv rm D R S wx ∧ D.map Dg.abs = R.map Dg.abs ∧ Good (D.map Dg.abs) ∧ S.length ≤ 4 * (k + 1))
        case first =>
          cases tk with
          | true =>
            have H11 := Lib.hid (tick11x (now := now) wr HPM.out.pool)
            go_wp2_with fail
            refine (H11.out).mono ?_
            rintro e w3 ⟨rv', A1, rfl, hm, hpk, hlo⟩
            have HM := Lib.hid hm
            have HP1 := Lib.hid (HPM.out.add hm)
            have HT1 := Lib.hid (HPM.out.told hm)
            have HPK := Lib.hid hpk; have HLO := Lib.hid hlo
            have c1' := (HCB.out w3 HP1.out.below).2.1
            have H13 := Lib.hid (tick13 (now := now) w3 HP1.out.ref)
            clear hm hpk hlo H11 c0 c1
            obtain ⟨D', hD'⟩ : ∃ X, X = D.filter fun d => !(decide (d.over ≤ now)) := ⟨_, rfl⟩
            rw [← hD'] at HP1 HT1 HM
            have HD' := Lib.hid hD'
            clear hD'
            obtain ⟨O, hO⟩ : ∃ X, X = outK D now D.length := ⟨_, rfl⟩
            rw [← hO] at HT1 HPK ⊢
            have HO := Lib.hid hO
            clear hO
            obtain ⟨no, hno⟩ : ∃ n, n = O.length := ⟨_, rfl⟩
            rw [← hno]
            have HNO := Lib.hid hno
            clear hno
            go_wp2_with fail
            refine (H13.out).mono ?_
            rintro e w4 ⟨rm', A2, c2, rfl, hm2, hpk2⟩
            have HP2 := Lib.hid (HP1.out.refd hm2)
            have HPK1 := Lib.hid (pks_keep HP1.out.ref hm2 HPK.out (fun b o e hf => by have := (HLO.out b o e).1; have := HPM.out.ref.lt (.inl hf); omega) HT1.out.at_)
            have HT2 := Lib.hid (HT1.out.keep (fun k c hc => (hm2.kept.block k (lt_of_blk hc) (fun hf => rfoot_not HP1.out.ref hc (.inl rfl) hf)).trans hc) hm2.kept.size)
            have HA1 : Hid (∀ b o, A1 = some ⟨b, o, none⟩ → ∃ cur, w4.heap[b]? = some (.cells cur 43 (0, 0))) := Lib.hid fun b o e => by
              obtain ⟨h1, cur, h2⟩ := HLO.out b o e
              exact ⟨cur, (hm2.kept.block b (lt_of_blk h2) (fun hf => by have := HPM.out.ref.lt (.inl hf); omega)).trans h2⟩
            have hsame := samePackets12 (c := no) (c2 := c2) w4 HPK1.out hpk2 (Nat.le_refl _) (by rw [HO.out, abs_outK now HGD.out, HAB.out, abs_outR])
            have HAB1 : Hid (D'.map Dg.abs = (R.filter fun d => !(decide (d.over ≤ now))).map Dg.abs) := Lib.hid (by rw [HD'.out, abs_tick, abs_tick, HAB.out])
            have HGD1 : Hid (Good (D'.map Dg.abs)) := Lib.hid (by rw [HD'.out, abs_tick]; exact HGD.out.tick now)
            obtain ⟨R', hR'⟩ : ∃ X, X = R.filter fun d => !(decide (d.over ≤ now)) := ⟨_, rfl⟩
            rw [← hR'] at HP2 HAB1
            rw [← HNO.out] at hsame
            obtain ⟨nr, hnr⟩ : ∃ n, n = (outR R now R.length).length := ⟨_, rfl⟩
            rw [← hnr] at hsame ⊢
            have H12 := Lib.hid hsame
            clear hm2 hpk2 hsame hR' hnr H13
            go_wp2_with fail
            refine (H12.out).mono ?_
            rintro e w5 ⟨rfl, hb5⟩
            have HP3 := Lib.hid (HP2.out.step hb5)
            have HT3 := Lib.hid (HT2.out.keep (fun k c hc => (hb5.block k (lt_of_blk hc)).trans hc) hb5.size)
            have HPK3 := Lib.hid ((HPK1.out.below hb5).mono hb5.size)
            have HA3 : Hid (∀ b o, A1 = some ⟨b, o, none⟩ → ∃ cur, w5.heap[b]? = some (.cells cur 43 (0, 0))) := Lib.hid fun b o e => by
              obtain ⟨cur, h2⟩ := HA1.out b o e
              exact ⟨cur, (hb5.block b (lt_of_blk h2)).trans h2⟩
            have hno4 : no ≤ 4 := by
              have := outK_len D now D.length
              have := HPM.out.pool.four
              rw [HNO.out, HO.out]; omega
            clear hb5 H12 c1'
            go_wp2_with fail
            go_loopw [8] (fun j wx => ∃ (q : Nat) (S' : List Span), q ≤ no ∧ j = .int .i64 q ∧ PM w pb mb kb rv' rm' D' R' S' wx ∧ Told w D' S' (O.drop q) wx ∧ PksRd wx wx.heap.size A1 O ∧ (∀ e ∈ O, BodyAt wx e) ∧ (∀ b o, A1 = some ⟨b, o, none⟩ → ∃ cur, wx.heap[b]? = some (.cells cur 43 (0, 0))) ∧ S'.length ≤ 4 * k + q) (fun j _ => no - (intOf j).toNat)
            case atStart => exact ⟨0, S, Nat.zero_le _, rfl, HP3.out, HT3.out, HPK3.out, HT3.out.at_, HA3.out, HSL.out⟩
            case round =>
              clear HP3 HT3 HPK3 HA3
              obtain ⟨q, S', hq, rfl, hpm, htd, hpk, hbd, hty, hsl⟩ := hrel
              have HPQ := Lib.hid hpm; have HTQ := Lib.hid htd; have HPKQ := Lib.hid hpk; have HBQ := Lib.hid hbd; have HTYQ := Lib.hid hty; have HSQ := Lib.hid hsl
              clear hpm htd hpk hbd hty hsl
              by_cases hql : q < no
              · obtain ⟨y, hy⟩ : ∃ y, O[q]? = some y := ⟨O[q]'(by rw [← HNO.out]; exact hql), List.getElem?_eq_getElem _⟩
                obtain ⟨bA, oA, rfl, hbA, hcA⟩ := HPKQ.out.at_ (by rintro h0; rw [h0] at hy; simp at hy)
                have hye := HPKQ.out.each y (List.mem_of_getElem? hy)
                have c39 := hcA q y hy 39 _ ((El.at_ hye.1).tail 7)
                have hdr : O.drop q = y :: O.drop (q + 1) := by
                  obtain ⟨hl, e⟩ := List.getElem?_eq_some_iff.1 hy
                  rw [← e]; exact List.drop_eq_getElem_cons hl
                have htq := HTQ.out
                rw [hdr] at htq
                obtain ⟨hn1, hn2⟩ := htq.note HPQ.out
                have HN1 := Lib.hid hn1; have HN2 := Lib.hid hn2
                have H14 := Lib.hid (bytes14k (A := y.adr) (n := y.pk.body.length) (c := y.cap) _ HPQ.out.book (by have := HSQ.out; omega))
                clear hy hbA hcA hye hdr htq hn1 hn2
                go_wp2_with fail
                refine (H14.out).mono ?_
                rintro e w6 ⟨rfl, hbk, hk6, hl6⟩
                have HP6 := Lib.hid (HPQ.out.noted hbk hk6 hl6 HN1.out.1 HN1.out.2.1 HN1.out.2.2)
                have h5k : ∀ (k : Nat) (c : Array Value), _ → w6.heap[k]? = some (.cells c 5 (0, 0)) := fun k c hc => hk6.block k c 5 (by decide) (by decide) hc
                have HT6 := Lib.hid (HN2.out.keep h5k hk6.size)
                have HPK6 := Lib.hid (pks_book hk6 HPKQ.out (fun b o e => by
                  obtain ⟨cur, h2⟩ := HTYQ.out b o e
                  exact ⟨cur, 43, by decide, by decide, h2⟩) HBQ.out)
                have HB6 : Hid (∀ e ∈ O, BodyAt w6 e) := Lib.hid fun e he => (HBQ.out e he).keep (fun g hg => by
                  obtain ⟨cu, hc⟩ := body_type (HBQ.out e he) hg
                  rw [hc]; exact h5k g cu hc) hk6.size
                have HTY6 : Hid (∀ b o, (some ⟨bA, oA, none⟩ : Option Addr) = some ⟨b, o, none⟩ → ∃ cur, w6.heap[b]? = some (.cells cur 43 (0, 0))) := Lib.hid fun b o e => by
                  obtain ⟨cur, h2⟩ := HTYQ.out b o e
                  exact ⟨cur, hk6.block b cur 43 (by decide) (by decide) h2⟩
                clear hbk hk6 hl6 h5k
                go_wp2_with fail
                go_roundw
                case rel => exact ⟨q + 1, _, by omega, by go_num, HP6.out, HT6.out, HPK6.out, HB6.out, HTY6.out, by rw [List.length_append, List.length_singleton]; have := HSQ.out; omega⟩
                case measure => simp [intOf]; omega
              · go_wp2_with fail
                go_meet
                exact ⟨_, _, _, _, _, HPQ.out, HAB1.out, HGD1.out, by have := HSQ.out; omega⟩
          | false =>
            have HPX := Lib.hid (El.at_ HAE.out.1)
            have HBX := Lib.hid ((HAE.out.2.1.below HPM.out.below).mono HPM.out.below.size)
            have H15 := Lib.hid (twinPacket15 wr HPX.out HBX.out (by have := HAT.out; omega))
            obtain ⟨PX, hPX⟩ : ∃ P, P = a.x.cells := ⟨_, rfl⟩
            rw [← hPX] at HPX H15 HCB
            clear hPX
            have HLX := Lib.hid HPX.out.len
            have HSZ := Lib.hid size43
            have HRX := Lib.hid (HCB.out wr HPM.out.below).2.2
            obtain ⟨x, hx⟩ : ∃ x, x = a.x.pk := ⟨_, rfl⟩
            rw [← hx] at HPX H15 HBX HAT
            obtain ⟨At, hAt⟩ : ∃ A, A = a.x.adr := ⟨_, rfl⟩
            obtain ⟨ct, hct⟩ : ∃ c, c = a.x.cap := ⟨_, rfl⟩
            rw [← hAt, ← hct] at HPX HBX
            have HBXW : Hid (∀ W, Below w.heap.size w W → Bs W W.heap.size At ct x.body) := Lib.hid fun W hW => by rw [hAt, hct, hx]; exact (HAE.out.2.1.below hW).mono hW.size
            have HB5X : Hid (x.body ≠ [] → ∀ g o, At = some ⟨g, o, none⟩ → ¬ rfoot mb rm R g) := Lib.hid (by
              intro hne g o e hf
              rw [hx] at hne
              rw [hAt] at e
              obtain ⟨b2, o2, e2, hlt2, -⟩ := HAE.out.2.1.rd hne
              rw [e] at e2
              cases e2
              have := HPM.out.rlo g hf
              omega)
            clear hx hAt hct
            go_wp2_with (first | (refine wpList_load_mid rfl 43 (.tmp 67) ?ho b (o + k * 42 + 2) ?hx PX _ ?hr Try.underlying43 rfl ?hi ?_; (case ho => with_reducible rfl); (case hx => rfl); (case hr => exact HRX.out); (case hi => rw [HLX.out]; exact HSZ.out); (try simp only [Act.put, List.setIfInBounds_toArray, List.set_cons_zero, List.set_cons_succ])))
            refine (H15.out).mono ?_
            rintro e w3 ⟨gt, hgt, rfl, hgb, hb3⟩
            obtain ⟨PT, hPT⟩ : ∃ P, P = pkL x (some ⟨gt, 0, none⟩) (x.body.length + 4) := ⟨_, rfl⟩
            rw [← hPT]
            have HPT : Hid (PkAt PT x (some ⟨gt, 0, none⟩) (x.body.length + 4)) := Lib.hid ⟨hPT, HPX.out.ok⟩
            have HLT := Lib.hid HPT.out.len; have HOT := Lib.hid HPT.out.one
            clear hPT c0 c1
            go_upto_region 18 with (first | (refine wpList_store_new rfl 43 (.tmp 9) (.tmp 69) ?ho w3 _ PT.toArray 43 ?hx ?hy ?hi ?hc ?h1 ?_; (case ho => with_reducible rfl); (case hx => rfl); (case hy => rfl); (case hi => rw [List.size_toArray, HLT.out]; exact HSZ.out); (case hc => exact Eq.trans (b := 40) rfl (by rw [List.size_toArray, HLT.out])); (case h1 => exact all_oneCell_toArray HOT.out)))
            have hb34 : Below w3.heap.size w3 (w3.alloc (.cells PT.toArray 43)) := (Below.refl _ _).alloc (Nat.le_refl _) _
            have x9 := heap_alloc_new w3 (.cells PT.toArray 43)
            obtain ⟨W3, hW3⟩ : ∃ W, W = w3.alloc (.cells PT.toArray 43) := ⟨_, rfl⟩
            obtain ⟨b9, hb9⟩ : ∃ b, b = w3.heap.size := ⟨_, rfl⟩
            rw [← hW3] at hb34 x9 ⊢
            rw [← hb9] at x9 ⊢
            have HP3 := Lib.hid (HPM.out.step (hb3.trans (hb34.mono hb3.size)))
            have HX9 := Lib.hid x9
            have HGT := Lib.hid ((hb34.block gt (lt_of_blk hgb)).trans hgb)
            have HGTL : Hid (wr.heap.size ≤ gt ∧ wr.heap.size ≤ b9 ∧ gt < W3.heap.size ∧ b9 < W3.heap.size) := Lib.hid ⟨hgt, by rw [hb9]; exact hb3.size, lt_of_blk HGT.out, lt_of_blk x9⟩
            have HXT : Hid (Bs W3 W3.heap.size (some ⟨gt, 0, none⟩) (x.body.length + 4) x.body) := Lib.hid (twin_bsb HGT.out (by have := HAT.out; omega))
            have HF9 : Hid (¬ foot pb rv D b9 ∧ ¬ rfoot mb rm R b9 ∧ ¬ foot pb rv D gt ∧ ¬ rfoot mb rm R gt ∧ ¬ bods D gt ∧ ¬ bods R gt) := Lib.hid (by
              have := HGTL.out
              exact ⟨fun h => by have := HPM.out.pool.lt (.inl h); omega, fun h => by have := HPM.out.ref.lt (.inl h); omega, fun h => by have := HPM.out.pool.lt (.inl h); omega, fun h => by have := HPM.out.ref.lt (.inl h); omega, fun h => by have := HPM.out.pool.lt (.inr h); omega, fun h => by have := HPM.out.ref.lt (.inr h); omega⟩)
            have HFB : Hid (¬ foot pb rv D b ∧ ¬ rfoot mb rm R b) := Lib.hid ⟨fun h => by have := HPM.out.flo b h; have := HBW.out; omega, fun h => by have := HPM.out.rlo b h; have := HBW.out; omega⟩
            have HLX1 : Hid (x.body.length ≤ 1000000) := Lib.hid (by have := HAT.out; omega)
            clear hgt hgb hb3 hb34 x9 hW3 hb9
            refine reg18 W3 HP3.out.pool HPT.out HX9.out HXT.out HLX1.out (.inr ⟨gt, 0, _, rfl, HGT.out⟩) HNOW.out hlt (by omega) (HCB.out W3 HP3.out.below).2.1 HF9.out.1 HFB.out.1 (fun c a d v W h => (by cases (show _ ∧ (_ = _) ∧ _ from h).2.1)) ?_
            intro r70 r71 r72 r73 r74 r75 r76 r77 r78 r79 r80 r81 g1 rv' D' out dr W4 hbox
            have HBOX := Lib.hid hbox
            have HP4 := Lib.hid (HP3.out.add hbox.mem)
            have HGR : Hid (Good (R.map Dg.abs)) := Lib.hid (by rw [← HAB.out]; exact HGD.out)
            clear hbox
            go_upto_region 19 with (fail)
            refine reg19 W4 HP4.out.ref HGR.out HPX.out (HCB.out W4 HP4.out.below).2.2 (HBXW.out W4 HP4.out.below) HLX1.out HB5X.out HNOW.out hlt (by omega) (HCB.out W4 HP4.out.below).2.1 HFB.out.2 (fun c a d v W h => (by cases (show _ ∧ (_ = _) ∧ _ from h).2.1)) ?_
            intro r82 r83 r84 r85 r86 r87 r88 r89 r90 r91 r92 r93 r94 r95 r96 r97 g2 rm' R' out2 dr2 W5 hrb
            obtain ⟨rfl, rfl, y, L1, L2, A1, A2, c1, c2, hboth⟩ := both_of HP3.out HAB.out HGD.out HBOX.out hrb
            have HBO := Lib.hid hboth
            have HX95 := Lib.hid (stay_both HBOX.out hrb HX9.out HF9.out.1 HF9.out.2.1)
            have HGT5 := Lib.hid (stay_both HBOX.out hrb HGT.out HF9.out.2.2.1 HF9.out.2.2.2.1)
            have HND : Hid (¬ bods D' gt ∧ ¬ bods R' gt) := Lib.hid (by
              have := HGTL.out
              refine ⟨fun h => ?_, fun h => ?_⟩
              · rcases HBOX.out.mem.bods gt h with h | h
                · exact HF9.out.2.2.2.2.1 h
                · omega
              · rcases hrb.mem.bods gt h with h | h
                · exact HF9.out.2.2.2.2.2 h
                · have := HBOX.out.mem.kept.size; omega)
            clear hrb hboth
            go_upto_region 20 with (fail)
            refine reg20 W5 HPT.out HX95.out HGT5.out HPX.out (HCB.out W5 HBO.out.pm.below).2.2 (by have := HBW.out; have := HBO.out.pm.below.size; omega) (HBXW.out W5 HBO.out.pm.below) (by have := HAT.out; omega) hlt (by omega) HBO.out.p1 HBO.out.p2 HBO.out.x1 HBO.out.x2 HBO.out.b1.bs HBO.out.b2 (by have := HBO.out.len; omega) (fun c a d v W h => (by cases (show _ ∧ (_ = _) ∧ _ from h).2.1)) ?_
            intro r98 r99 r100 r101 r102 r103 r104 r105 r106 r107 r108 r109 r110 r111 r112 r113 r114 r115 r116 r117 r118 r119 r120 W6 hb6
            have HP6 := Lib.hid (HBO.out.pm.step hb6)
            have HX96 := Lib.hid ((hb6.block b9 (lt_of_blk HX95.out)).trans HX95.out)
            have HGT6 := Lib.hid ((hb6.block gt (lt_of_blk HGT5.out)).trans HGT5.out)
            have HX16 := Lib.hid ((hb6.block g1 (lt_of_blk HBO.out.x1)).trans HBO.out.x1)
            have HY6 : Hid (BodyAt W6 ⟨y, A1, c1⟩) := Lib.hid (HBO.out.b1.keep (fun g hg => hb6.block g (HBO.out.b1.lt hg)) hb6.size)
            have c39 := box_cell HX16.out (HBO.out.p1.tail 7)
            have hfr := HP6.out.fresh HY6.out HBO.out.new (by have := HP3.out.below.size; omega) HP3.out.span_below
            have HFR := Lib.hid hfr
            have H14 := Lib.hid (bytes14k (A := A1) (n := y.body.length) (c := c1) W6 HP6.out.book (by have := HSL.out; omega))
            obtain ⟨ny, hny⟩ : ∃ n, n = y.body.length := ⟨_, rfl⟩
            rw [← hny] at c39 H14
            have HNY := Lib.hid hny
            clear hb6 hfr hny
            go_wp2_with fail
            refine (H14.out).mono ?_
            rintro e w7 ⟨rfl, hbk, hk7, hl7⟩
            rw [HNY.out] at hbk
            have HP7 := Lib.hid (HP6.out.noted hbk hk7 hl7 HFR.out.1 HFR.out.2.1 HFR.out.2.2)
            have HTB := Lib.hid (twin_tb (hk7.block b9 _ 43 (by decide) (by decide) HX96.out) (hk7.block gt _ 5 (by decide) (by decide) HGT6.out) HPX.out.ok.body8)
            obtain ⟨m, hm⟩ : ∃ m, m = x.body.length := ⟨_, rfl⟩
            rw [← hm] at HTB
            have HM := Lib.hid hm
            have hm5 : m ≤ 50000 := by have := HAT.out; omega
            clear hbk hk7 hl7 hm H14 c39
            go_wp2_with fail
            go_loopw [16] (fun j wx => ∃ (q : Nat), q ≤ m ∧ j = .int .i64 q ∧ PM w pb mb kb rv' rm' D' R' (S ++ [spanE ⟨y, A1, c1⟩]) wx ∧ TB wx b9 gt m PT q) (fun j _ => m - (intOf j).toNat)
            case atStart => exact ⟨0, Nat.zero_le _, rfl, HP7.out, HTB.out⟩
            case round =>
              clear HP7 HTB
              obtain ⟨q, hq, rfl, hpm, htb⟩ := hrel
              have HPQ := Lib.hid hpm; have HTQ := Lib.hid htb
              have c39 := box_cell htb.box (HPT.out.tail 7)
              rw [← HM.out] at c39
              clear hpm htb
              by_cases hql : q < m
              · obtain ⟨cur, hcur, hsz, hall⟩ := HTQ.out.row
                obtain ⟨u, hu, hcu⟩ := hall q (Nat.le_refl _) hql
                have cq := (cell_blk hcur q).trans hcu
                have fq := frozen_blk hcur q
                have hgl := lt_of_blk hcur
                obtain ⟨bu, hbu⟩ : ∃ b, b = (u + 1) % 256 := ⟨_, rfl⟩
                have eu : IntKind.u8.wrap ((u : Int) + 1) = (bu : Int) := by rw [IntKind.wrap_u8]; omega
                have hbu8 : bu < 256 := by omega
                have HCUR := Lib.hid hcur; have HCS := Lib.hid hsz; have HALL := Lib.hid hall; have HBU8 := Lib.hid hbu8
                clear hcur hsz hall hcu hbu hbu8
                go_upto_region 26 with (fail)
                go_still_tail 10, (by kernel_rfl)
                go_upto_region 25 with (fail)
                have tj := Turned.setCell HCUR.out q (.int .u8 (bu : Int))
                obtain ⟨W8, hW8⟩ : ∃ W, W = (wr.setCell ⟨gt, q, none⟩ (.int .u8 (bu : Int))).drew := ⟨_, rfl⟩
                rw [← hW8]
                have h88 : Below (wr.setCell ⟨gt, q, none⟩ (.int .u8 (bu : Int))).heap.size (wr.setCell ⟨gt, q, none⟩ (.int .u8 (bu : Int))) W8 := by rw [hW8]; exact (Below.refl _ _).drew
                have HP8 := Lib.hid ((HPQ.out.write tj HCUR.out (by simp) (by have := HGTL.out; have := HPM.out.below.size; omega) HND.out.1 HND.out.2).step h88)
                have HT8 : Hid (TB W8 b9 gt m PT (q + 1)) := Lib.hid (by
                  have h9 : W8.heap[b9]? = some (.cells PT.toArray 43 (0, 0)) := ((h88.block b9 (by rw [tj.size]; exact lt_of_blk HTQ.out.box)).trans (tj.other (fun e => by
                    have h1 := HTQ.out.box
                    rw [e, HCUR.out] at h1; cases h1))).trans HTQ.out.box
                  refine ⟨h9, _, (h88.block gt (by rw [tj.size]; exact lt_of_blk HCUR.out)).trans (tj.get (lt_of_blk HCUR.out)), by simp [HCS.out], fun i h1 h2 => ?_⟩
                  obtain ⟨u2, hu2, hc2⟩ := HALL.out i (by omega) h2
                  exact ⟨u2, hu2, by rw [Array.getElem?_setIfInBounds_ne (by omega)]; exact hc2⟩)
                clear tj hW8 h88 cq fq c39
                go_wp2_with fail
                go_roundw
                case rel => exact ⟨q + 1, by omega, by go_num, HP8.out, HT8.out⟩
                case measure => simp [intOf]; omega
              · go_wp2_with fail
                go_meet
                exact ⟨_, _, _, _, _, HPQ.out, HBO.out.abs, HBO.out.good, by rw [List.length_append, List.length_singleton]; have := HSL.out; omega⟩
        case rest =>
          obtain ⟨rv', rm', D', R', S', hpm, hab, hgd, hsl⟩ := hcut
          have HPM' := Lib.hid hpm; have HAB' := Lib.hid hab; have HGD' := Lib.hid hgd; have HSL' := Lib.hid hsl
          clear hpm hab hgd hsl c0 c1
          go_upto_region 27 with (fail)
          refine reg27 _ HPM'.out.pool HPM'.out.ref HAB'.out (fun c a d v W h => (by cases (show _ ∧ (_ = _) ∧ _ from h).2.1)) ?_
          intro r142 r143 r144 r145 r146 r147 r148 r149 r150 r151 r152 r153 r154 r155
          have HPM2 := Lib.hid (HPM'.out.step (Below.refl _ _).drew)
          go_wp2_with fail
          go_roundw
          case rel => exact ⟨k + 1, rv', rm', D', R', S', by omega, by go_num, HPM2.out, HAB'.out, HGD'.out, HSL'.out⟩
          case measure => simp [intOf]; omega
      · obtain rfl : k = n := by omega
        have H23 := Lib.hid (apart23 wr HPM.out.book HPM.out.spans HPM.out.apart HPM.out.below.size (Nat.le_refl _) (by have := HSL.out; omega))
        clear hlt
        go_wp2_with fail
        refine (H23.out).mono ?_
        rintro e w3 ⟨rfl, hb3⟩
        have HB3 := Lib.hid (HPM.out.below.trans hb3)
        clear hb3
        go_wp2_with fail
        refine (lives_any _).mono ?_
        rintro e w4 ⟨rfl, hb4⟩
        have HB4 := Lib.hid (HB3.out.trans (hb4.mono HB3.out.size))
        clear hb4
        go_wp2_with fail
        go_ret
        exact ⟨rfl, HB4.out⟩
end Go.Proofs.Ytjldcblklbikaaa
