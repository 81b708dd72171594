/- Names for the pieces of the run. -/
import Derived.Test.YtbbepcgjinfljaaGreatDoorAbsT2
import Derived.Test.YtbbepcgjinfljaaGreatDoorAbsZ4
namespace Go.Proofs.YtbbepcgjinfljaaGreatDoor
open Go.Abs
noncomputable def bt : AV := .bool true
noncomputable def bf : AV := .bool false
noncomputable def n (m : Nat) : AV := .int .i64 (.ofNat m)
theorem no_known : AllK Tryz.prog T [] := fun k hk => by cases hk
end Go.Proofs.YtbbepcgjinfljaaGreatDoor
