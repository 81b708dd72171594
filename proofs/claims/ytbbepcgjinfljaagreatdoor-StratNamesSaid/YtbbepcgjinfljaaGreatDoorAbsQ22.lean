/- A piece of the run: one call of function 4, from what it is handed to what it leaves. -/
import Derived.Test.YtbbepcgjinfljaaGreatDoorAbsQ0
import Derived.Test.YtbbepcgjinfljaaGreatDoorAbsQ14
import Derived.Test.YtbbepcgjinfljaaGreatDoorAbsQ21
namespace Go.Proofs.YtbbepcgjinfljaaGreatDoor
open Go.Abs
set_option maxRecDepth 20000 in
noncomputable def k22 : Known where
  f := 4
  args := [n 5, .slice 80 0 4 4]
  h := [(80, .cells [n 1, .nilslice, .slice 60 0 2 3, .nilslice, n 2, .nilslice, .slice 65 0 1 3, .nilslice, n 3, .nilslice, .slice 72 0 2 3, .nilslice, n 4, .nilslice, .slice 79 0 2 3, .nilslice]),
    (79, .cells [n 4, bf, .nilslice, n 3, bf, .nilslice]),
    (72, .cells [n 0, bf, .nilslice, n 2, bt, .nilslice]),
    (65, .cells [n 1, bf, .nilslice]),
    (60, .cells [n 2, bf, .nilslice, n 0, bf, .nilslice]),
    (53, .cells [n 3, n 4]),
    (52, .cells [n 0]),
    (51, .cells [.nilslice, .nilslice, .nilslice, .nilslice]),
    (50, .cells [n 0, .nilslice, .nilslice, .nilslice]),
    (47, .cells [n 2, .slice 46 0 2 2]),
    (46, .cells [n 0, .nilslice, n 0, .nilslice]),
    (44, .cells [n 2]),
    (43, .cells ((n 0) :: (.nilslice) :: (.nilslice) :: (.nilslice) :: (n 0) :: (.nilslice) :: (.nilslice) :: (.nilslice) :: (n 0) :: (.nilslice) :: (.nilslice) :: (.nilslice) :: (n 0) :: (.nilslice) :: (.nilslice) :: (.nilslice) :: (n 0) :: (.nilslice) :: (.nilslice) :: (.nilslice) :: (n 0) :: (.nilslice) :: (.nilslice) :: (.nilslice) :: (n 0) :: (.nilslice) :: (.nilslice) :: (.nilslice) :: (n 0) :: (.nilslice) :: (.nilslice) :: (.nilslice) :: (n 0) :: (.nilslice) :: (.nilslice) :: (.nilslice) :: (n 0) :: (.nilslice) :: (.nilslice) :: (.nilslice) :: (n 0) :: (.nilslice) :: (.nilslice) :: (.nilslice) :: (n 0) :: (.nilslice) :: (.nilslice) :: (.nilslice) :: (n 0) :: (.nilslice) :: (.nilslice) :: (.nilslice) :: (n 0) :: (.nilslice) :: (.nilslice) :: (.nilslice) :: (n 0) :: (.nilslice) :: (.nilslice) :: (.nilslice) :: (n 0) :: (.nilslice) :: (.nilslice) :: (.nilslice) :: (n 0) :: (.nilslice) :: (.nilslice) :: (.nilslice) :: (n 0) :: (.nilslice) :: (.nilslice) :: (.nilslice) :: (n 0) :: (.nilslice) :: (.nilslice) :: (.nilslice) :: (n 0) :: (.nilslice) :: (.nilslice) :: (.nilslice) :: (n 0) :: (.nilslice) :: (.nilslice) :: (.nilslice) :: (n 0) :: (.nilslice) :: (.nilslice) :: (.nilslice) :: (n 0) :: (.nilslice) :: (.nilslice) :: (.nilslice) :: (n 0) :: (.nilslice) :: (.nilslice) :: (.nilslice) :: (n 0) :: (.nilslice) :: (.nilslice) :: (.nilslice) :: (n 0) :: (.nilslice) :: (.nilslice) :: (.nilslice) :: (n 0) :: (.nilslice) :: (.nilslice) :: (.nilslice) :: (n 0) :: (.nilslice) :: (.nilslice) :: (.nilslice) :: (n 0) :: (.nilslice) :: (.nilslice) :: (.nilslice) :: (n 0) :: (.nilslice) :: (.nilslice) :: (.nilslice) :: (n 0) :: (.nilslice) :: (.nilslice) :: (.nilslice) :: (n 0) :: (.nilslice) :: (.nilslice) :: (.nilslice) :: (n 0) :: (.nilslice) :: (.nilslice) :: (.nilslice) :: (n 0) :: (.nilslice) :: (.nilslice) :: (.nilslice) :: (n 0) :: (.nilslice) :: (.nilslice) :: (.nilslice) :: (n 0) :: (.nilslice) :: (.nilslice) :: (.nilslice) :: (n 0) :: (.nilslice) :: (.nilslice) :: (.nilslice) :: (n 0) :: (.nilslice) :: (.nilslice) :: (.nilslice) :: (n 0) :: (.nilslice) :: (.nilslice) :: (.nilslice) :: (n 0) :: (.nilslice) :: (.nilslice) :: (.nilslice) :: (n 0) :: (.nilslice) :: (.nilslice) :: (.nilslice) :: (n 0) :: (.nilslice) :: (.nilslice) :: (.nilslice) :: (n 0) :: (.nilslice) :: (.nilslice) :: (.nilslice) :: (n 0) :: (.nilslice) :: (.nilslice) :: (.nilslice) :: (n 0) :: (.nilslice) :: (.nilslice) :: (.nilslice) :: (n 0) :: (.nilslice) :: (.nilslice) :: (.nilslice) :: (n 0) :: (.nilslice) :: (.nilslice) :: (.nilslice) :: (n 0) :: (.nilslice) :: (.nilslice) :: (.nilslice) :: (n 0) :: (.nilslice) :: (.nilslice) :: (.nilslice) :: (n 0) :: (.nilslice) :: (.nilslice) :: (.nilslice) :: (n 0) :: (.nilslice) :: (.nilslice) :: (.nilslice) :: (n 0) :: (.nilslice) :: (.nilslice) :: (.nilslice) :: (n 0) :: (.nilslice) :: (.nilslice) :: (.nilslice) :: (n 0) :: (.nilslice) :: (.nilslice) :: (.nilslice) :: (n 0) :: (.nilslice) :: (.nilslice) :: (.nilslice) :: (n 0) :: (.nilslice) :: (.nilslice) :: (.nilslice) :: (n 0) :: (.nilslice) :: (.nilslice) :: (.nilslice) :: (n 0) :: (.nilslice) :: (.nilslice) :: (.nilslice) :: (n 0) :: (.nilslice) :: (.nilslice) :: (.nilslice) :: (n 0) :: (.nilslice) :: (.nilslice) :: (.nilslice) :: (n 0) :: (.nilslice) :: (.nilslice) :: (.nilslice) :: [])),
    (42, .cells [n 2, .nilslice, .nilslice, .nilslice]),
    (39, .cells [n 3, n 4]),
    (38, .cells [n 4, n 3]),
    (37, .cells [n 1, .nilslice, .slice 17 0 2 3, .nilslice, n 2, .nilslice, .slice 22 0 1 3, .nilslice, n 3, .nilslice, .slice 29 0 2 3, .nilslice, n 4, .nilslice, .slice 36 0 2 3, .nilslice]),
    (36, .cells [n 4, bf, .nilslice, n 3, bf, .nilslice]),
    (29, .cells [n 0, bf, .nilslice, n 2, bt, .nilslice]),
    (22, .cells [n 1, bf, .nilslice]),
    (17, .cells [n 2, bf, .nilslice, n 0, bf, .nilslice]),
    (10, .cells [n 0]),
    (9, .cells [n 0, .nilslice, .slice 8 0 1 3, .nilslice]),
    (8, .cells [n 0, bt, .nilslice]),
    (4, .cells [n 0, .nilslice, .slice 3 0 1 3, .nilslice]),
    (3, .cells [n 0, bt, .nilslice])]
  nx := 81
  outs := [(.ret (.tuple [.slice 85 0 4 1, n 0]),
    [(85, .cells [.slice 84 0 1 1, .slice 83 0 2 1, .slice 82 0 1 1, .slice 81 0 1 1]),
    (81, .cells [n 4]),
    (82, .cells [n 3]),
    (83, .cells [n 1, n 2]),
    (84, .cells [n 0]),
    (80, .cells [n 1, .nilslice, .slice 60 0 2 3, .nilslice, n 2, .nilslice, .slice 65 0 1 3, .nilslice, n 3, .nilslice, .slice 72 0 2 3, .nilslice, n 4, .nilslice, .slice 79 0 2 3, .nilslice]),
    (79, .cells [n 4, bf, .nilslice, n 3, bf, .nilslice]),
    (72, .cells [n 0, bf, .nilslice, n 2, bt, .nilslice]),
    (65, .cells [n 1, bf, .nilslice]),
    (60, .cells [n 2, bf, .nilslice, n 0, bf, .nilslice]),
    (53, .cells [n 3, n 4]),
    (52, .cells [n 0]),
    (51, .cells [.nilslice, .nilslice, .nilslice, .nilslice]),
    (50, .cells [n 0, .nilslice, .nilslice, .nilslice]),
    (47, .cells [n 2, .slice 46 0 2 2]),
    (46, .cells [n 0, .nilslice, n 0, .nilslice]),
    (44, .cells [n 2]),
    (43, .cells ((n 0) :: (.nilslice) :: (.nilslice) :: (.nilslice) :: (n 0) :: (.nilslice) :: (.nilslice) :: (.nilslice) :: (n 0) :: (.nilslice) :: (.nilslice) :: (.nilslice) :: (n 0) :: (.nilslice) :: (.nilslice) :: (.nilslice) :: (n 0) :: (.nilslice) :: (.nilslice) :: (.nilslice) :: (n 0) :: (.nilslice) :: (.nilslice) :: (.nilslice) :: (n 0) :: (.nilslice) :: (.nilslice) :: (.nilslice) :: (n 0) :: (.nilslice) :: (.nilslice) :: (.nilslice) :: (n 0) :: (.nilslice) :: (.nilslice) :: (.nilslice) :: (n 0) :: (.nilslice) :: (.nilslice) :: (.nilslice) :: (n 0) :: (.nilslice) :: (.nilslice) :: (.nilslice) :: (n 0) :: (.nilslice) :: (.nilslice) :: (.nilslice) :: (n 0) :: (.nilslice) :: (.nilslice) :: (.nilslice) :: (n 0) :: (.nilslice) :: (.nilslice) :: (.nilslice) :: (n 0) :: (.nilslice) :: (.nilslice) :: (.nilslice) :: (n 0) :: (.nilslice) :: (.nilslice) :: (.nilslice) :: (n 0) :: (.nilslice) :: (.nilslice) :: (.nilslice) :: (n 0) :: (.nilslice) :: (.nilslice) :: (.nilslice) :: (n 0) :: (.nilslice) :: (.nilslice) :: (.nilslice) :: (n 0) :: (.nilslice) :: (.nilslice) :: (.nilslice) :: (n 0) :: (.nilslice) :: (.nilslice) :: (.nilslice) :: (n 0) :: (.nilslice) :: (.nilslice) :: (.nilslice) :: (n 0) :: (.nilslice) :: (.nilslice) :: (.nilslice) :: (n 0) :: (.nilslice) :: (.nilslice) :: (.nilslice) :: (n 0) :: (.nilslice) :: (.nilslice) :: (.nilslice) :: (n 0) :: (.nilslice) :: (.nilslice) :: (.nilslice) :: (n 0) :: (.nilslice) :: (.nilslice) :: (.nilslice) :: (n 0) :: (.nilslice) :: (.nilslice) :: (.nilslice) :: (n 0) :: (.nilslice) :: (.nilslice) :: (.nilslice) :: (n 0) :: (.nilslice) :: (.nilslice) :: (.nilslice) :: (n 0) :: (.nilslice) :: (.nilslice) :: (.nilslice) :: (n 0) :: (.nilslice) :: (.nilslice) :: (.nilslice) :: (n 0) :: (.nilslice) :: (.nilslice) :: (.nilslice) :: (n 0) :: (.nilslice) :: (.nilslice) :: (.nilslice) :: (n 0) :: (.nilslice) :: (.nilslice) :: (.nilslice) :: (n 0) :: (.nilslice) :: (.nilslice) :: (.nilslice) :: (n 0) :: (.nilslice) :: (.nilslice) :: (.nilslice) :: (n 0) :: (.nilslice) :: (.nilslice) :: (.nilslice) :: (n 0) :: (.nilslice) :: (.nilslice) :: (.nilslice) :: (n 0) :: (.nilslice) :: (.nilslice) :: (.nilslice) :: (n 0) :: (.nilslice) :: (.nilslice) :: (.nilslice) :: (n 0) :: (.nilslice) :: (.nilslice) :: (.nilslice) :: (n 0) :: (.nilslice) :: (.nilslice) :: (.nilslice) :: (n 0) :: (.nilslice) :: (.nilslice) :: (.nilslice) :: (n 0) :: (.nilslice) :: (.nilslice) :: (.nilslice) :: (n 0) :: (.nilslice) :: (.nilslice) :: (.nilslice) :: (n 0) :: (.nilslice) :: (.nilslice) :: (.nilslice) :: (n 0) :: (.nilslice) :: (.nilslice) :: (.nilslice) :: (n 0) :: (.nilslice) :: (.nilslice) :: (.nilslice) :: (n 0) :: (.nilslice) :: (.nilslice) :: (.nilslice) :: (n 0) :: (.nilslice) :: (.nilslice) :: (.nilslice) :: (n 0) :: (.nilslice) :: (.nilslice) :: (.nilslice) :: (n 0) :: (.nilslice) :: (.nilslice) :: (.nilslice) :: (n 0) :: (.nilslice) :: (.nilslice) :: (.nilslice) :: (n 0) :: (.nilslice) :: (.nilslice) :: (.nilslice) :: (n 0) :: (.nilslice) :: (.nilslice) :: (.nilslice) :: (n 0) :: (.nilslice) :: (.nilslice) :: (.nilslice) :: (n 0) :: (.nilslice) :: (.nilslice) :: (.nilslice) :: (n 0) :: (.nilslice) :: (.nilslice) :: (.nilslice) :: (n 0) :: (.nilslice) :: (.nilslice) :: (.nilslice) :: (n 0) :: (.nilslice) :: (.nilslice) :: (.nilslice) :: [])),
    (42, .cells [n 2, .nilslice, .nilslice, .nilslice]),
    (39, .cells [n 3, n 4]),
    (38, .cells [n 4, n 3]),
    (37, .cells [n 1, .nilslice, .slice 17 0 2 3, .nilslice, n 2, .nilslice, .slice 22 0 1 3, .nilslice, n 3, .nilslice, .slice 29 0 2 3, .nilslice, n 4, .nilslice, .slice 36 0 2 3, .nilslice]),
    (36, .cells [n 4, bf, .nilslice, n 3, bf, .nilslice]),
    (29, .cells [n 0, bf, .nilslice, n 2, bt, .nilslice]),
    (22, .cells [n 1, bf, .nilslice]),
    (17, .cells [n 2, bf, .nilslice, n 0, bf, .nilslice]),
    (10, .cells [n 0]),
    (9, .cells [n 0, .nilslice, .slice 8 0 1 3, .nilslice]),
    (8, .cells [n 0, bt, .nilslice]),
    (4, .cells [n 0, .nilslice, .slice 3 0 1 3, .nilslice]),
    (3, .cells [n 0, bt, .nilslice])], 86)]
theorem r22 : callK T [k14, k21] 400 60 false k22.f k22.args k22.h k22.nx = some k22.outs := by kernel_rfl
theorem f22 : Fact Tryz.prog T k22.f k22.args k22.h k22.nx k22.outs := piece_ok mixed tabOK (l := [k14, k21]) (List.forall_mem_cons.2 ⟨f14, (List.forall_mem_cons.2 ⟨f21, no_known⟩)⟩) 400 60 r22
end Go.Proofs.YtbbepcgjinfljaaGreatDoor
