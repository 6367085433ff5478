/- The walk of lives: the example of the chapter is true, reckoned; and what the reckoner may take of calls. No condition. -/
import Derived.Test.YtfmhjggpcapfoaaGreatCfg
import Derived.Test.YtfmhjggpcapfoaaGreatBytes
namespace Go.Proofs.YtfmhjggpcapfoaaGreat
open Go.RowKit Go.Proofs.YtfmhjggpcapfoaaGreatZev
def livesHints : List Hint := [.dirty [], .dirty [], .dirty [3], .dirty [0], .dirty [1, 2], .dirty [], .dirty [1], .dirty [15], .dirty [], .dirty [], .dirty [2, 1], .dirty [], .dirty [2], .dirty [1], .dirty [1, 20, 2], .dirty [], .dirty [1], .dirty [31], .dirty [], .dirty [], .dirty [39], .dirty [42], .dirty [], .dirty [], .dirty [2, 1], .dirty [], .dirty [2], .dirty [1], .dirty [], .dirty [58], .dirty []]
theorem lives_good : good (ev (cfgOf Tryz.prog) ro false 20000 (.call 7 []) ⟨[], H0 0, livesHints, [], []⟩) = true := by kernel_rfl
theorem known : Knows Tryz.prog 7 := fun w => calls_of_good cfgOk lives_good w (mWorld w 0) (LsR.nil _)
def cfgL (P : Program) : Cfg := { P := P, hk := livesHook 7, xf := xf }
theorem cfgLOk [Sym] [Kin] [Glob] : CfgOk (cfgL Tryz.prog) := ⟨livesHook_ok known, livesHook_kp 7, xfOk, noNum, mixed⟩
def cfgR (P : Program) : Cfg := { P := P, hk := orHook (livesHook 7) (rowHook 22 17), xf := xf }
theorem cfgROk [Sym] [Kin] [Glob] (h : ∀ i, Bytes (Sym.row i)) : CfgOk (cfgR Tryz.prog) := ⟨orHook_ok (livesHook_ok known) (rowHook_ok copy_ok same_ok h), orHook_kp (livesHook_kp 7) rowHook_kp, xfOk, noNum, mixed⟩
end Go.Proofs.YtfmhjggpcapfoaaGreat
