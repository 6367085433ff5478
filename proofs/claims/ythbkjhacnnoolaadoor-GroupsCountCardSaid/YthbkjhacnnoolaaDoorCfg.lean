/- What the reckoner is told of this seat's program: the functions without a Go body, the package variables. No condition. -/
import Derived.Test.YthbkjhacnnoolaaDoorRows
import Derived.Test.YthbkjhacnnoolaaDoorZevX11
import Derived.KernelRfl
namespace Go.Proofs.YthbkjhacnnoolaaDoor
open Go.RowKit Go.Proofs.YthbkjhacnnoolaaDoorZev
set_option linter.unusedVariables false
theorem noNum : NoNum Tryd.prog := by
  have h : Tryd.prog.funcs.all (fun fn => !(fn.name == "runtime.NumGoroutine")) = true := by kernel_rfl
  intro f fn hf
  have := Array.all_eq_true_iff_forall_mem.1 h fn (Array.mem_of_getElem? hf)
  simpa using this
theorem mixed : Tryd.prog.follows .mixedOrders = true := by kernel_rfl
def xf : FuncId → Option Outs := fun g => none
theorem xfOk [Sym] [Kin] [Glob] : ExtOk Tryd.prog xf := fun g k h => by cases h
def cfgOf (P : Program) : Cfg := { P := P, xf := xf }
theorem cfgOk [Sym] [Kin] [Glob] : CfgOk (cfgOf Tryd.prog) := ⟨noHook_ok, noHook_kp, xfOk, noNum, mixed⟩
def vars : List (Nat × List Value) := [(0, [.int .u8 0, .int .u8 0, .int .u8 0, .int .u8 0, .int .u8 0, .int .u8 0, .int .u8 0, .int .u8 0, .int .u8 0, .int .u8 0, .int .u8 0, .int .u8 0, .int .u8 0, .int .u8 0, .int .u8 0, .int .u8 0, .int .u8 0, .int .u8 0, .int .u8 0, .int .u8 0, .int .u8 0, .int .u8 0, .int .u8 0, .int .u8 0, .int .u8 0, .int .u8 0, .int .u8 0, .int .u8 0, .int .u8 0, .int .u8 0, .int .u8 0, .int .u8 1, .int .u8 255, .int .u8 2, .int .u8 0, .int .u8 0, .int .u8 0, .int .u8 0, .int .u8 0, .int .u8 0, .int .u8 0, .int .u8 0, .int .u8 0, .int .u8 0, .int .u8 0, .int .u8 0, .int .u8 0, .int .u8 1, .int .u8 255, .int .u8 2, .int .u8 0, .int .u8 0, .int .u8 0, .int .u8 0, .int .u8 0, .int .u8 0, .int .u8 0, .int .u8 0, .int .u8 0, .int .u8 0, .int .u8 0, .int .u8 0, .int .u8 0, .int .u8 2, .int .u8 255, .int .u8 2, .int .u8 0, .int .u8 0, .int .u8 0, .int .u8 0, .int .u8 0, .int .u8 0, .int .u8 0, .int .u8 0, .int .u8 0, .int .u8 0, .int .u8 0, .int .u8 0, .int .u8 0, .int .u8 22, .int .u8 255, .int .u8 2, .int .u8 0, .int .u8 0, .int .u8 0, .int .u8 0, .int .u8 0, .int .u8 0, .int .u8 0, .int .u8 0, .int .u8 0, .int .u8 0, .int .u8 0, .int .u8 1, .int .u8 0, .int .u8 2, .int .u8 255, .int .u8 2, .int .u8 0, .int .u8 0, .int .u8 0, .int .u8 0, .int .u8 0, .int .u8 0, .int .u8 0, .int .u8 0, .int .u8 0, .int .u8 1, .int .u8 255, .int .u8 0, .int .u8 0, .int .u8 0])]
def laidL : List (String × DataW Unit) := [("sojourner/addrs.known", Rows.laid_sojourner_addrs_known)]
instance glob : Glob := ⟨fun g => vars.findIdx? (fun p => p.1 == g)⟩
def ro (l : Nat) : Bool := decide (l < 1)
def H0 (k : Nat) : Heap := vars.map (fun x => some (.cells x.2.toArray 0)) ++ List.replicate k none
def β0 (k : Nat) : Env := vars.map (fun x => some ⟨x.1, 0, x.2.length⟩) ++ List.replicate k none
end Go.Proofs.YthbkjhacnnoolaaDoor
