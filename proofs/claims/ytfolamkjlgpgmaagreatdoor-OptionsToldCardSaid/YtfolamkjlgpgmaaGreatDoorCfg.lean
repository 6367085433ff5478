/- What the reckoner is told of this seat's program: the functions without a Go body, the package variables. No condition. -/
import Derived.Test.YtfolamkjlgpgmaaGreatDoorRows
import Derived.Test.YtfolamkjlgpgmaaGreatDoorZevX11
import Derived.KernelRfl
namespace Go.Proofs.YtfolamkjlgpgmaaGreatDoor
open Go.RowKit Go.Proofs.YtfolamkjlgpgmaaGreatDoorZev
set_option linter.unusedVariables false
theorem noNum : NoNum Tryz.prog := by
  have h : Tryz.prog.funcs.all (fun fn => !(fn.name == "runtime.NumGoroutine")) = true := by kernel_rfl
  intro f fn hf
  have := Array.all_eq_true_iff_forall_mem.1 h fn (Array.mem_of_getElem? hf)
  simpa using this
theorem mixed : Tryz.prog.follows .mixedOrders = true := by kernel_rfl
def xf : FuncId → Option Outs := fun g => if g = 100 then some .countStr else if g = 111 then some .idxStr else none
theorem xfOk [Sym] [Kin] [Glob] : ExtOk Tryz.prog xf := by
  intro g k h
  unfold xf at h
  split at h
  · rename_i e; cases h; subst e; exact ⟨Tryz.f100, Tryz.func100, by kernel_rfl, by kernel_rfl, by kernel_rfl, by kernel_rfl⟩
  split at h
  · rename_i e; cases h; subst e; exact ⟨Tryz.f111, Tryz.func111, by kernel_rfl, by kernel_rfl, by kernel_rfl, by kernel_rfl⟩
  cases h
def cfgOf (P : Program) : Cfg := { P := P, xf := xf }
theorem cfgOk [Sym] [Kin] [Glob] : CfgOk (cfgOf Tryz.prog) := ⟨noHook_ok, noHook_kp, xfOk, noNum, mixed⟩
def ro (l : Nat) : Bool := false
def H0 (k : Nat) : Heap := List.replicate k none
def β0 (k : Nat) : Env := List.replicate k none
end Go.Proofs.YtfolamkjlgpgmaaGreatDoor
