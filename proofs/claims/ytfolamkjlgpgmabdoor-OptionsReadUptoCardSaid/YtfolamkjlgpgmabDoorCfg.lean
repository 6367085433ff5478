/- What the reckoner is told of this seat's program: the functions without a Go body, the package variables. No condition. -/
import Derived.Test.YtfolamkjlgpgmabDoorRows
import Derived.Test.YtfolamkjlgpgmabDoorZevX11
import Derived.KernelRfl
namespace Go.Proofs.YtfolamkjlgpgmabDoor
open Go.RowKit Go.Proofs.YtfolamkjlgpgmabDoorZev
set_option linter.unusedVariables false
theorem noNum : NoNum Tryd.prog := by
  have h : Tryd.prog.funcs.all (fun fn => !(fn.name == "runtime.NumGoroutine")) = true := by kernel_rfl
  intro f fn hf
  have := Array.all_eq_true_iff_forall_mem.1 h fn (Array.mem_of_getElem? hf)
  simpa using this
theorem mixed : Tryd.prog.follows .mixedOrders = true := by kernel_rfl
def xf : FuncId → Option Outs := fun g => if g = 86 then some .countStr else if g = 97 then some .idxStr else none
theorem xfOk [Sym] [Kin] [Glob] : ExtOk Tryd.prog xf := by
  intro g k h
  unfold xf at h
  split at h
  · rename_i e; cases h; subst e; exact ⟨Tryd.f86, Tryd.func86, by kernel_rfl, by kernel_rfl, by kernel_rfl, by kernel_rfl⟩
  split at h
  · rename_i e; cases h; subst e; exact ⟨Tryd.f97, Tryd.func97, by kernel_rfl, by kernel_rfl, by kernel_rfl, by kernel_rfl⟩
  cases h
def cfgOf (P : Program) : Cfg := { P := P, xf := xf }
theorem cfgOk [Sym] [Kin] [Glob] : CfgOk (cfgOf Tryd.prog) := ⟨noHook_ok, noHook_kp, xfOk, noNum, mixed⟩
def ro (l : Nat) : Bool := false
def H0 (k : Nat) : Heap := List.replicate k none
def β0 (k : Nat) : Env := List.replicate k none
end Go.Proofs.YtfolamkjlgpgmabDoor
