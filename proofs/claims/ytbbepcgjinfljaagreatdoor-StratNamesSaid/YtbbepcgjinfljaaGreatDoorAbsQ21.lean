/- A piece of the run: one call of function 17, from what it is handed to what it leaves. -/
import Derived.Test.YtbbepcgjinfljaaGreatDoorAbsQ0
import Derived.Test.YtbbepcgjinfljaaGreatDoorAbsQ17
import Derived.Test.YtbbepcgjinfljaaGreatDoorAbsQ18
import Derived.Test.YtbbepcgjinfljaaGreatDoorAbsQ19
import Derived.Test.YtbbepcgjinfljaaGreatDoorAbsQ20
namespace Go.Proofs.YtbbepcgjinfljaaGreatDoor
open Go.Abs
set_option maxRecDepth 20000 in
noncomputable def k21 : Known where
  f := 17
  args := [.ptr 83 0]
  h := [(83, .cells [n 5, .map 82]),
    (82, .map [(.agg [n 1, n 2], bf), (.agg [n 1, n 0], bf), (.agg [n 2, n 1], bf), (.agg [n 3, n 0], bf), (.agg [n 3, n 2], bt), (.agg [n 4, n 4], bf), (.agg [n 4, n 3], bf)]),
    (81, .cells [n 0]),
    (80, .cells [n 1, .nilslice, .slice 60 0 2 3, .nilslice, n 2, .nilslice, .slice 65 0 1 3, .nilslice, n 3, .nilslice, .slice 72 0 2 3, .nilslice, n 4, .nilslice, .slice 79 0 2 3, .nilslice]),
    (79, .cells [n 4, bf, .nilslice, n 3, bf, .nilslice]),
    (72, .cells [n 0, bf, .nilslice, n 2, bt, .nilslice]),
    (65, .cells [n 1, bf, .nilslice]),
    (60, .cells [n 2, bf, .nilslice, n 0, bf, .nilslice]),
    (53, .cells [n 3, n 4]),
    (52, .cells [n 0]),
    (51, .cells [.nilslice, .nilslice, .nilslice, .nilslice]),
    (50, .cells [n 0, .nilslice, .nilslice, .nilslice]),
    (47, .cells [n 2, .slice 46 0 2 2]),
    (46, .cells [n 0, .nilslice, n 0, .nilslice]),
    (44, .cells [n 2]),
    (43, .cells ((n 0) :: (.nilslice) :: (.nilslice) :: (.nilslice) :: (n 0) :: (.nilslice) :: (.nilslice) :: (.nilslice) :: (n 0) :: (.nilslice) :: (.nilslice) :: (.nilslice) :: (n 0) :: (.nilslice) :: (.nilslice) :: (.nilslice) :: (n 0) :: (.nilslice) :: (.nilslice) :: (.nilslice) :: (n 0) :: (.nilslice) :: (.nilslice) :: (.nilslice) :: (n 0) :: (.nilslice) :: (.nilslice) :: (.nilslice) :: (n 0) :: (.nilslice) :: (.nilslice) :: (.nilslice) :: (n 0) :: (.nilslice) :: (.nilslice) :: (.nilslice) :: (n 0) :: (.nilslice) :: (.nilslice) :: (.nilslice) :: (n 0) :: (.nilslice) :: (.nilslice) :: (.nilslice) :: (n 0) :: (.nilslice) :: (.nilslice) :: (.nilslice) :: (n 0) :: (.nilslice) :: (.nilslice) :: (.nilslice) :: (n 0) :: (.nilslice) :: (.nilslice) :: (.nilslice) :: (n 0) :: (.nilslice) :: (.nilslice) :: (.nilslice) :: (n 0) :: (.nilslice) :: (.nilslice) :: (.nilslice) :: (n 0) :: (.nilslice) :: (.nilslice) :: (.nilslice) :: (n 0) :: (.nilslice) :: (.nilslice) :: (.nilslice) :: (n 0) :: (.nilslice) :: (.nilslice) :: (.nilslice) :: (n 0) :: (.nilslice) :: (.nilslice) :: (.nilslice) :: (n 0) :: (.nilslice) :: (.nilslice) :: (.nilslice) :: (n 0) :: (.nilslice) :: (.nilslice) :: (.nilslice) :: (n 0) :: (.nilslice) :: (.nilslice) :: (.nilslice) :: (n 0) :: (.nilslice) :: (.nilslice) :: (.nilslice) :: (n 0) :: (.nilslice) :: (.nilslice) :: (.nilslice) :: (n 0) :: (.nilslice) :: (.nilslice) :: (.nilslice) :: (n 0) :: (.nilslice) :: (.nilslice) :: (.nilslice) :: (n 0) :: (.nilslice) :: (.nilslice) :: (.nilslice) :: (n 0) :: (.nilslice) :: (.nilslice) :: (.nilslice) :: (n 0) :: (.nilslice) :: (.nilslice) :: (.nilslice) :: (n 0) :: (.nilslice) :: (.nilslice) :: (.nilslice) :: (n 0) :: (.nilslice) :: (.nilslice) :: (.nilslice) :: (n 0) :: (.nilslice) :: (.nilslice) :: (.nilslice) :: (n 0) :: (.nilslice) :: (.nilslice) :: (.nilslice) :: (n 0) :: (.nilslice) :: (.nilslice) :: (.nilslice) :: (n 0) :: (.nilslice) :: (.nilslice) :: (.nilslice) :: (n 0) :: (.nilslice) :: (.nilslice) :: (.nilslice) :: (n 0) :: (.nilslice) :: (.nilslice) :: (.nilslice) :: (n 0) :: (.nilslice) :: (.nilslice) :: (.nilslice) :: (n 0) :: (.nilslice) :: (.nilslice) :: (.nilslice) :: (n 0) :: (.nilslice) :: (.nilslice) :: (.nilslice) :: (n 0) :: (.nilslice) :: (.nilslice) :: (.nilslice) :: (n 0) :: (.nilslice) :: (.nilslice) :: (.nilslice) :: (n 0) :: (.nilslice) :: (.nilslice) :: (.nilslice) :: (n 0) :: (.nilslice) :: (.nilslice) :: (.nilslice) :: (n 0) :: (.nilslice) :: (.nilslice) :: (.nilslice) :: (n 0) :: (.nilslice) :: (.nilslice) :: (.nilslice) :: (n 0) :: (.nilslice) :: (.nilslice) :: (.nilslice) :: (n 0) :: (.nilslice) :: (.nilslice) :: (.nilslice) :: (n 0) :: (.nilslice) :: (.nilslice) :: (.nilslice) :: (n 0) :: (.nilslice) :: (.nilslice) :: (.nilslice) :: (n 0) :: (.nilslice) :: (.nilslice) :: (.nilslice) :: (n 0) :: (.nilslice) :: (.nilslice) :: (.nilslice) :: (n 0) :: (.nilslice) :: (.nilslice) :: (.nilslice) :: (n 0) :: (.nilslice) :: (.nilslice) :: (.nilslice) :: (n 0) :: (.nilslice) :: (.nilslice) :: (.nilslice) :: (n 0) :: (.nilslice) :: (.nilslice) :: (.nilslice) :: (n 0) :: (.nilslice) :: (.nilslice) :: (.nilslice) :: (n 0) :: (.nilslice) :: (.nilslice) :: (.nilslice) :: (n 0) :: (.nilslice) :: (.nilslice) :: (.nilslice) :: (n 0) :: (.nilslice) :: (.nilslice) :: (.nilslice) :: [])),
    (42, .cells [n 2, .nilslice, .nilslice, .nilslice]),
    (39, .cells [n 3, n 4]),
    (38, .cells [n 4, n 3]),
    (37, .cells [n 1, .nilslice, .slice 17 0 2 3, .nilslice, n 2, .nilslice, .slice 22 0 1 3, .nilslice, n 3, .nilslice, .slice 29 0 2 3, .nilslice, n 4, .nilslice, .slice 36 0 2 3, .nilslice]),
    (36, .cells [n 4, bf, .nilslice, n 3, bf, .nilslice]),
    (29, .cells [n 0, bf, .nilslice, n 2, bt, .nilslice]),
    (22, .cells [n 1, bf, .nilslice]),
    (17, .cells [n 2, bf, .nilslice, n 0, bf, .nilslice]),
    (10, .cells [n 0]),
    (9, .cells [n 0, .nilslice, .slice 8 0 1 3, .nilslice]),
    (8, .cells [n 0, bt, .nilslice]),
    (4, .cells [n 0, .nilslice, .slice 3 0 1 3, .nilslice]),
    (3, .cells [n 0, bt, .nilslice])]
  nx := 128
  outs := [(.ret (.slice 132 0 4 1),
    [(132, .cells [.slice 131 0 1 1, .slice 130 0 2 1, .slice 129 0 1 1, .slice 128 0 1 1]),
    (128, .cells [n 4]),
    (129, .cells [n 3]),
    (130, .cells [n 1, n 2]),
    (131, .cells [n 0]),
    (83, .cells [n 5, .map 82]),
    (82, .map [(.agg [n 1, n 2], bf), (.agg [n 1, n 0], bf), (.agg [n 2, n 1], bf), (.agg [n 3, n 0], bf), (.agg [n 3, n 2], bt), (.agg [n 4, n 4], bf), (.agg [n 4, n 3], bf)]),
    (81, .cells [n 0]),
    (80, .cells [n 1, .nilslice, .slice 60 0 2 3, .nilslice, n 2, .nilslice, .slice 65 0 1 3, .nilslice, n 3, .nilslice, .slice 72 0 2 3, .nilslice, n 4, .nilslice, .slice 79 0 2 3, .nilslice]),
    (79, .cells [n 4, bf, .nilslice, n 3, bf, .nilslice]),
    (72, .cells [n 0, bf, .nilslice, n 2, bt, .nilslice]),
    (65, .cells [n 1, bf, .nilslice]),
    (60, .cells [n 2, bf, .nilslice, n 0, bf, .nilslice]),
    (53, .cells [n 3, n 4]),
    (52, .cells [n 0]),
    (51, .cells [.nilslice, .nilslice, .nilslice, .nilslice]),
    (50, .cells [n 0, .nilslice, .nilslice, .nilslice]),
    (47, .cells [n 2, .slice 46 0 2 2]),
    (46, .cells [n 0, .nilslice, n 0, .nilslice]),
    (44, .cells [n 2]),
    (43, .cells ((n 0) :: (.nilslice) :: (.nilslice) :: (.nilslice) :: (n 0) :: (.nilslice) :: (.nilslice) :: (.nilslice) :: (n 0) :: (.nilslice) :: (.nilslice) :: (.nilslice) :: (n 0) :: (.nilslice) :: (.nilslice) :: (.nilslice) :: (n 0) :: (.nilslice) :: (.nilslice) :: (.nilslice) :: (n 0) :: (.nilslice) :: (.nilslice) :: (.nilslice) :: (n 0) :: (.nilslice) :: (.nilslice) :: (.nilslice) :: (n 0) :: (.nilslice) :: (.nilslice) :: (.nilslice) :: (n 0) :: (.nilslice) :: (.nilslice) :: (.nilslice) :: (n 0) :: (.nilslice) :: (.nilslice) :: (.nilslice) :: (n 0) :: (.nilslice) :: (.nilslice) :: (.nilslice) :: (n 0) :: (.nilslice) :: (.nilslice) :: (.nilslice) :: (n 0) :: (.nilslice) :: (.nilslice) :: (.nilslice) :: (n 0) :: (.nilslice) :: (.nilslice) :: (.nilslice) :: (n 0) :: (.nilslice) :: (.nilslice) :: (.nilslice) :: (n 0) :: (.nilslice) :: (.nilslice) :: (.nilslice) :: (n 0) :: (.nilslice) :: (.nilslice) :: (.nilslice) :: (n 0) :: (.nilslice) :: (.nilslice) :: (.nilslice) :: (n 0) :: (.nilslice) :: (.nilslice) :: (.nilslice) :: (n 0) :: (.nilslice) :: (.nilslice) :: (.nilslice) :: (n 0) :: (.nilslice) :: (.nilslice) :: (.nilslice) :: (n 0) :: (.nilslice) :: (.nilslice) :: (.nilslice) :: (n 0) :: (.nilslice) :: (.nilslice) :: (.nilslice) :: (n 0) :: (.nilslice) :: (.nilslice) :: (.nilslice) :: (n 0) :: (.nilslice) :: (.nilslice) :: (.nilslice) :: (n 0) :: (.nilslice) :: (.nilslice) :: (.nilslice) :: (n 0) :: (.nilslice) :: (.nilslice) :: (.nilslice) :: (n 0) :: (.nilslice) :: (.nilslice) :: (.nilslice) :: (n 0) :: (.nilslice) :: (.nilslice) :: (.nilslice) :: (n 0) :: (.nilslice) :: (.nilslice) :: (.nilslice) :: (n 0) :: (.nilslice) :: (.nilslice) :: (.nilslice) :: (n 0) :: (.nilslice) :: (.nilslice) :: (.nilslice) :: (n 0) :: (.nilslice) :: (.nilslice) :: (.nilslice) :: (n 0) :: (.nilslice) :: (.nilslice) :: (.nilslice) :: (n 0) :: (.nilslice) :: (.nilslice) :: (.nilslice) :: (n 0) :: (.nilslice) :: (.nilslice) :: (.nilslice) :: (n 0) :: (.nilslice) :: (.nilslice) :: (.nilslice) :: (n 0) :: (.nilslice) :: (.nilslice) :: (.nilslice) :: (n 0) :: (.nilslice) :: (.nilslice) :: (.nilslice) :: (n 0) :: (.nilslice) :: (.nilslice) :: (.nilslice) :: (n 0) :: (.nilslice) :: (.nilslice) :: (.nilslice) :: (n 0) :: (.nilslice) :: (.nilslice) :: (.nilslice) :: (n 0) :: (.nilslice) :: (.nilslice) :: (.nilslice) :: (n 0) :: (.nilslice) :: (.nilslice) :: (.nilslice) :: (n 0) :: (.nilslice) :: (.nilslice) :: (.nilslice) :: (n 0) :: (.nilslice) :: (.nilslice) :: (.nilslice) :: (n 0) :: (.nilslice) :: (.nilslice) :: (.nilslice) :: (n 0) :: (.nilslice) :: (.nilslice) :: (.nilslice) :: (n 0) :: (.nilslice) :: (.nilslice) :: (.nilslice) :: (n 0) :: (.nilslice) :: (.nilslice) :: (.nilslice) :: (n 0) :: (.nilslice) :: (.nilslice) :: (.nilslice) :: (n 0) :: (.nilslice) :: (.nilslice) :: (.nilslice) :: (n 0) :: (.nilslice) :: (.nilslice) :: (.nilslice) :: (n 0) :: (.nilslice) :: (.nilslice) :: (.nilslice) :: (n 0) :: (.nilslice) :: (.nilslice) :: (.nilslice) :: (n 0) :: (.nilslice) :: (.nilslice) :: (.nilslice) :: (n 0) :: (.nilslice) :: (.nilslice) :: (.nilslice) :: (n 0) :: (.nilslice) :: (.nilslice) :: (.nilslice) :: (n 0) :: (.nilslice) :: (.nilslice) :: (.nilslice) :: (n 0) :: (.nilslice) :: (.nilslice) :: (.nilslice) :: (n 0) :: (.nilslice) :: (.nilslice) :: (.nilslice) :: [])),
    (42, .cells [n 2, .nilslice, .nilslice, .nilslice]),
    (39, .cells [n 3, n 4]),
    (38, .cells [n 4, n 3]),
    (37, .cells [n 1, .nilslice, .slice 17 0 2 3, .nilslice, n 2, .nilslice, .slice 22 0 1 3, .nilslice, n 3, .nilslice, .slice 29 0 2 3, .nilslice, n 4, .nilslice, .slice 36 0 2 3, .nilslice]),
    (36, .cells [n 4, bf, .nilslice, n 3, bf, .nilslice]),
    (29, .cells [n 0, bf, .nilslice, n 2, bt, .nilslice]),
    (22, .cells [n 1, bf, .nilslice]),
    (17, .cells [n 2, bf, .nilslice, n 0, bf, .nilslice]),
    (10, .cells [n 0]),
    (9, .cells [n 0, .nilslice, .slice 8 0 1 3, .nilslice]),
    (8, .cells [n 0, bt, .nilslice]),
    (4, .cells [n 0, .nilslice, .slice 3 0 1 3, .nilslice]),
    (3, .cells [n 0, bt, .nilslice])], 133)]
theorem r21 : callK T [k17, k18, k19, k20] 400 60 false k21.f k21.args k21.h k21.nx = some k21.outs := by kernel_rfl
theorem f21 : Fact Tryz.prog T k21.f k21.args k21.h k21.nx k21.outs := piece_ok mixed tabOK (l := [k17, k18, k19, k20]) (List.forall_mem_cons.2 ⟨f17, (List.forall_mem_cons.2 ⟨f18, (List.forall_mem_cons.2 ⟨f19, (List.forall_mem_cons.2 ⟨f20, no_known⟩)⟩)⟩)⟩) 400 60 r21
end Go.Proofs.YtbbepcgjinfljaaGreatDoor
