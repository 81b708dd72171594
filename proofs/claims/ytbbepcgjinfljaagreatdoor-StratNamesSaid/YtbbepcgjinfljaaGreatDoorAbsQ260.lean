/- The parts of Levels' code: its one inner loop is run from four states. -/
import Derived.Test.YtbbepcgjinfljaaGreatDoorAbsQ0
import Derived.Test.YtbbepcgjinfljaaGreatDoorAbsQ25
namespace Go.Proofs.YtbbepcgjinfljaaGreatDoor
open Go.Abs

def fstS : Code → Code
  | .seq a _ => a
  | c => c
def sndS : Code → Code
  | .seq _ b => b
  | c => c
def inS : Code → Code
  | .block _ c => c
  | .loop c => c
  | c => c
noncomputable def body40 : Code := match Tryz.f40.body with
  | some c => c
  | none => .skip
/-- Behind some parts of a sequence. -/
def past : Nat → Code → Code
  | 0, c => c
  | k + 1, c => past k (sndS c)
noncomputable def loop40 : Code := fstS (past 5 body40)
noncomputable def head40 : Code := inS (inS (sndS loop40))
noncomputable def turn40 : Code := sndS head40
noncomputable def seven40 : Code := inS turn40
noncomputable def inner40 : Code := past 2 seven40
theorem inner_shape : inner40 = .block 2 (inS inner40) := by kernel_rfl
theorem seven_shape : seven40 = .seq (fstS seven40) (.seq (fstS (sndS seven40)) inner40) := by kernel_rfl
theorem turn_shape : turn40 = .block 1 seven40 := by kernel_rfl
theorem head_shape : head40 = .seq (fstS head40) turn40 := by kernel_rfl
theorem loop_shape : loop40 = .seq (fstS loop40) (.block 0 (.loop head40)) := by kernel_rfl
theorem body_shape : body40 = .seq (fstS body40) (.seq (fstS (past 1 body40)) (.seq (fstS (past 2 body40)) (.seq (fstS (past 3 body40)) (.seq (fstS (past 4 body40)) (.seq loop40 (past 6 body40)))))) := by kernel_rfl
theorem body_is : Tryz.f40.body = some body40 := by kernel_rfl
noncomputable def call40 : CallT := callK T [k25] 400 59 false
noncomputable def yield40 : CallT := callK T [k25] 400 59 true
theorem known25 : AllK Tryz.prog T [k25] := List.forall_mem_cons.2 ⟨f25, no_known⟩
theorem call40_ok : FuncOK Tryz.prog T call40 ∧ YieldOK Tryz.prog yield40 := callK_ok mixed tabOK known25 400 59
/-- The code of Levels, as the run takes it. -/
noncomputable def g40 (c : Code) : ASt → Option (List OutC) := codeA T ⟨40, false⟩ call40 yield40 380 c
end Go.Proofs.YtbbepcgjinfljaaGreatDoor
