/- The document's Learn: till when. No condition but that the numbers fit. -/
import Derived.Test.YtkhbchgocilclaaPlayE
namespace Go.Proofs.Ytkhbchgocilclaa
open Go.RowKit
set_option linter.unusedVariables false
set_option linter.unusedSimpArgs false
set_option maxRecDepth 100000 in
set_option maxHeartbeats 20000000 in
theorem until16 {Bi now : Nat} {ii : Info} {X : Code} {w : World} (hi : w.heap[Bi]? = some (.cells ii.cells 28 (0, 0))) (ok : ii.Ok) (hnow : now < 18446744073709551616)
    {u0 u2 u3 u4 u6 u7 u8 u9 u10 u11 u12 u13 u14 u15 u16 u17 u18 u19 u20 u21 u22 u23 u24 u25 u26 u27 u28 u29 u30 u31 u32 u33 u34 u35 u36 u37 u38 u39 u40 u41 u42 u43 u44 u45 u46 u47 u48 u49 u50 u51 u52 u53 u54 u55 u56 u57 u58 u59 u60 u61 u62 u63 u64 u65 u66 u67 u68 u69 u70 u71 u72 u73 u74 u75 u76 u77 u78 u79 u80 u81 u82 u83 u84 u85 u86 u87 u88 u89 u90 u91 u92 u93 u94 u95 u96 u97 u98 u99 u100 u101 u102 u103 u104 u105 u106 u107 u108 u109 u110 u111 u112 u113 u114 u115 u116 u117 u118 u119 u120 u121 u122 u123 u124 u125 u126 u127 u128 u129 u130 u131 u132 u133 u134 u135 u136 u137 u138 u139 u140 u141 u142 u143 u144 u145 u146 u147 u148 u149 u150 u151 u152 u153 u154 u155 : Value} {Q : Exit → Act → World → Prop} (h : ∀ (u42 u43 u44 u45 u46 u47 u48 u49 u50 u51 u52 u53 u54 u55 u56 u57 u58 u59 u60 u61 u62 u63 : Value), X.wp Try.prog Q ⟨(List.toArray (u0 :: .int .u64 (now : Int) :: u2 :: u3 :: u4 :: .pointer (some ⟨Bi, 0, none⟩) :: u6 :: u7 :: .int .u64 (Info.until_ ii now : Int) :: u9 :: u10 :: u11 :: u12 :: u13 :: u14 :: u15 :: u16 :: u17 :: u18 :: u19 :: u20 :: u21 :: u22 :: u23 :: u24 :: u25 :: u26 :: u27 :: u28 :: u29 :: u30 :: u31 :: u32 :: u33 :: u34 :: u35 :: u36 :: u37 :: u38 :: u39 :: u40 :: u41 :: u42 :: u43 :: u44 :: u45 :: u46 :: u47 :: u48 :: u49 :: u50 :: u51 :: u52 :: u53 :: u54 :: u55 :: u56 :: u57 :: u58 :: u59 :: u60 :: u61 :: u62 :: u63 :: u64 :: u65 :: u66 :: u67 :: u68 :: u69 :: u70 :: u71 :: u72 :: u73 :: u74 :: u75 :: u76 :: u77 :: u78 :: u79 :: u80 :: u81 :: u82 :: u83 :: u84 :: u85 :: u86 :: u87 :: u88 :: u89 :: u90 :: u91 :: u92 :: u93 :: u94 :: u95 :: u96 :: u97 :: u98 :: u99 :: u100 :: u101 :: u102 :: u103 :: u104 :: u105 :: u106 :: u107 :: u108 :: u109 :: u110 :: u111 :: u112 :: u113 :: u114 :: u115 :: u116 :: u117 :: u118 :: u119 :: u120 :: u121 :: u122 :: u123 :: u124 :: u125 :: u126 :: u127 :: u128 :: u129 :: u130 :: u131 :: u132 :: u133 :: u134 :: u135 :: u136 :: u137 :: u138 :: u139 :: u140 :: u141 :: u142 :: u143 :: u144 :: u145 :: u146 :: u147 :: u148 :: u149 :: u150 :: u151 :: u152 :: u153 :: u154 :: u155 :: [])), []⟩ w) :
    ((codeAt [1,1,1,1,0] (Try.f16.body.getD .skip)).seq ((codeAt [1,1,1,1,1,0] (Try.f16.body.getD .skip)).seq X)).wp Try.prog Q ⟨(List.toArray (u0 :: .int .u64 (now : Int) :: u2 :: u3 :: u4 :: .pointer (some ⟨Bi, 0, none⟩) :: u6 :: u7 :: u8 :: u9 :: u10 :: u11 :: u12 :: u13 :: u14 :: u15 :: u16 :: u17 :: u18 :: u19 :: u20 :: u21 :: u22 :: u23 :: u24 :: u25 :: u26 :: u27 :: u28 :: u29 :: u30 :: u31 :: u32 :: u33 :: u34 :: u35 :: u36 :: u37 :: u38 :: u39 :: u40 :: u41 :: u42 :: u43 :: u44 :: u45 :: u46 :: u47 :: u48 :: u49 :: u50 :: u51 :: u52 :: u53 :: u54 :: u55 :: u56 :: u57 :: u58 :: u59 :: u60 :: u61 :: u62 :: u63 :: u64 :: u65 :: u66 :: u67 :: u68 :: u69 :: u70 :: u71 :: u72 :: u73 :: u74 :: u75 :: u76 :: u77 :: u78 :: u79 :: u80 :: u81 :: u82 :: u83 :: u84 :: u85 :: u86 :: u87 :: u88 :: u89 :: u90 :: u91 :: u92 :: u93 :: u94 :: u95 :: u96 :: u97 :: u98 :: u99 :: u100 :: u101 :: u102 :: u103 :: u104 :: u105 :: u106 :: u107 :: u108 :: u109 :: u110 :: u111 :: u112 :: u113 :: u114 :: u115 :: u116 :: u117 :: u118 :: u119 :: u120 :: u121 :: u122 :: u123 :: u124 :: u125 :: u126 :: u127 :: u128 :: u129 :: u130 :: u131 :: u132 :: u133 :: u134 :: u135 :: u136 :: u137 :: u138 :: u139 :: u140 :: u141 :: u142 :: u143 :: u144 :: u145 :: u146 :: u147 :: u148 :: u149 :: u150 :: u151 :: u152 :: u153 :: u154 :: u155 :: [])), []⟩ w := by
  have c19 : w.cell? ⟨Bi, 19, none⟩ = some (.int .u32 (ii.v : Int)) := by rw [cell_blk hi]; exact ii.get.2
  have hv := ok.v
  have HH := Lib.hid h
  clear h hi ok
  conv in codeAt _ _ => whnf
  conv in codeAt _ _ => whnf
  by_cases h1 : ii.v = 4294967295
  · have e : Info.until_ ii now = 9223372036854775807 := by unfold Info.until_ secsT addT forever; rw [if_pos h1]; omega
    rw [e] at HH
    have t1 : ((ii.v : Int) != 4294967295) = false := by rw [h1]; rfl
    have t2 : ((ii.v : Int) == 4294967295) = true := by rw [h1]; rfl
    clear h1 e hv
    go_wp2_with fail
    exact HH.out _ _ _ _ _ _ _ _ _ _ _ _ _ _ _ _ _ _ _ _ _ _ 
  · have t1 : ((ii.v : Int) != 4294967295) = true := by simp; omega
    have t2 : ((ii.v : Int) == 4294967295) = false := by simp; omega
    by_cases h2 : now < 9223372036854775807
    · have t3 : decide ((now : Int) < 9223372036854775807) = true := by simp; omega
      by_cases h3 : now + 1000 * ii.v < 9223372036854775807
      · have t4 : decide ((now : Int) + 1000 * (ii.v : Int) < 9223372036854775807) = true := by simp; omega
        have e : (Info.until_ ii now : Int) = (now : Int) + 1000 * (ii.v : Int) := by unfold Info.until_ secsT addT forever; rw [if_neg h1]; omega
        rw [e] at HH
        clear h1 e h3 hnow
        go_wp2_with fail
        exact HH.out _ _ _ _ _ _ _ _ _ _ _ _ _ _ _ _ _ _ _ _ _ _ 
      · have t4 : decide ((now : Int) + 1000 * (ii.v : Int) < 9223372036854775807) = false := by simp; omega
        have e : Info.until_ ii now = 9223372036854775807 := by unfold Info.until_ secsT addT forever; rw [if_neg h1]; omega
        rw [e] at HH
        clear h1 e h3 hnow
        go_wp2_with fail
        exact HH.out _ _ _ _ _ _ _ _ _ _ _ _ _ _ _ _ _ _ _ _ _ _ 
    · have t3 : decide ((now : Int) < 9223372036854775807) = false := by simp; omega
      have e : Info.until_ ii now = 9223372036854775807 := by unfold Info.until_ secsT addT forever; rw [if_neg h1]; omega
      rw [e] at HH
      clear h1 e hv
      go_wp2_with fail
      exact HH.out _ _ _ _ _ _ _ _ _ _ _ _ _ _ _ _ _ _ _ _ _ _ 
end Go.Proofs.Ytkhbchgocilclaa
