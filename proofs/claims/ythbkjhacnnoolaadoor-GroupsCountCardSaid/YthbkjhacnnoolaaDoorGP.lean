/- What the iterator gives, and how many. No condition but that each key is an address's. (Written out by exp.py.) -/
import Derived.Test.YthbkjhacnnoolaaDoorGO
namespace Go.Proofs.YthbkjhacnnoolaaDoor
open Go.RowKit Go.Maps
set_option linter.unusedVariables false
set_option linter.unusedSimpArgs false
/-- all the keys, each once -/
structure AllKeys (D : PD) (ss : List (List Nat)) : Prop where
  adr : ∀ l ∈ ss, Adr l
  nodup : ss.Nodup
  has : ∀ l ∈ ss, Maps.has D (kl l) = true
  all : ∀ l, Adr l → Maps.has D (kl l) = true → l ∈ ss
theorem Coll.allKeys {D : PD} {left : Lit → Bool} {ss : List (List Nat)} (h : Coll D left ss) (hl : ∀ x, left x = false) : AllKeys D ss :=
  ⟨h.adr, h.nodup, fun l hm => (h.has l hm).1, fun l ha hh => h.all l ha hh (hl _)⟩
theorem keys_gives (F : Fence) (n : Nat) (h10 : F.fn 52) (hro : F.round = none) (hn : 1 ≤ n) (Bm b nn : Nat) (D0 : PD) (hAK : AdrKeys D0) (w : World) (hBm : Bm < w.heap.size)
    (hm : w.cell? ⟨Bm, 0, none⟩ = some (.map (some b))) (hown : MJ w b nn D0) (hadr : True) :
    SeqGives F n Tryd.prog 52 #[.pointer (some ⟨Bm, 0, none⟩)] encA (AllKeys D0) (Maps.size D0) w := fun l J W hW hJ hY h0 => by
  have hown' : MJ W b nn D0 := owns_below hown hW
  refine (keys52 F n h10 hro hn l Bm b nn D0 hAK J (fun pre x W hp _ hl => hY pre x W hp hl) W hJ ((hW.cell (p := ⟨Bm, 0, none⟩) hBm).trans hm) hown' h0).mono ?_
  rintro e W' ⟨h1, ss, ⟨left, hC, hl⟩, hJ'⟩
  exact ⟨h1, ss, hC.allKeys hl, hJ'⟩
theorem AllKeys.length {D : PD} {ss : List (List Nat)} (h : AllKeys D ss) (ht : Canon D) (hAK : AdrKeys D) : ss.length = Maps.size D := by
  obtain ⟨es, rfl, hp, hk⟩ := ht
  have n1 : (ss.map kl).Nodup := by
    unfold List.Nodup
    rw [List.pairwise_map]
    exact List.Pairwise.imp_of_mem (fun {a b} ha hb hne e => hne (kl_inj (h.adr a ha) (h.adr b hb) e)) h.nodup
  have n2 : (es.map (·.1)).Nodup := by
    unfold List.Nodup
    rw [List.pairwise_map]
    exact apart_of_rising hp
  have hperm : (ss.map kl).Perm (es.map (·.1)) := by
    refine (List.perm_ext_iff_of_nodup n1 n2).2 fun k => ?_
    constructor
    · intro hm
      obtain ⟨l, hl, rfl⟩ := List.mem_map.1 hm
      have := h.has l hl
      rw [has_eq, List.any_eq_true] at this
      obtain ⟨p, hp1, hp2⟩ := this
      exact List.mem_map.2 ⟨p, hp1, WideAt.sameKey_eq hp2⟩
    · intro hm
      obtain ⟨p, hp1, rfl⟩ := List.mem_map.1 hm
      have hh : Maps.has (.map es) p.1 = true := by
        rw [has_eq, List.any_eq_true]
        exact ⟨p, hp1, WideAt.sameKey_self (hk p hp1)⟩
      obtain ⟨l, hl, e⟩ := hAK p.1 hh
      rw [e] at hh ⊢
      exact List.mem_map.2 ⟨l, h.all l hl hh, rfl⟩
  have := hperm.length_eq
  simpa [Maps.size] using this
end Go.Proofs.YthbkjhacnnoolaaDoor
