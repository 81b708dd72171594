/- A piece of the run: one call of function 12, from what it is handed to what it leaves. -/
import Derived.Test.YtbbepcgjinfljaaGreatDoorAbsQ0
import Derived.Test.YtbbepcgjinfljaaGreatDoorAbsQ22
import Derived.Test.YtbbepcgjinfljaaGreatDoorAbsQ26
import Derived.Test.YtbbepcgjinfljaaGreatDoorAbsQ28
import Derived.Test.YtbbepcgjinfljaaGreatDoorAbsQ32
import Derived.Test.YtbbepcgjinfljaaGreatDoorAbsQ34
namespace Go.Proofs.YtbbepcgjinfljaaGreatDoor
open Go.Abs
set_option maxRecDepth 20000 in
noncomputable def k35 : Known where
  f := 12
  args := []
  h := [(53, .cells [n 3, n 4]),
    (52, .cells [n 0]),
    (51, .cells [.nilslice, .nilslice, .nilslice, .nilslice]),
    (50, .cells [n 0, .nilslice, .nilslice, .nilslice]),
    (47, .cells [n 2, .slice 46 0 2 2]),
    (46, .cells [n 0, .nilslice, n 0, .nilslice]),
    (44, .cells [n 2]),
    (43, .cells ((n 0) :: (.nilslice) :: (.nilslice) :: (.nilslice) :: (n 0) :: (.nilslice) :: (.nilslice) :: (.nilslice) :: (n 0) :: (.nilslice) :: (.nilslice) :: (.nilslice) :: (n 0) :: (.nilslice) :: (.nilslice) :: (.nilslice) :: (n 0) :: (.nilslice) :: (.nilslice) :: (.nilslice) :: (n 0) :: (.nilslice) :: (.nilslice) :: (.nilslice) :: (n 0) :: (.nilslice) :: (.nilslice) :: (.nilslice) :: (n 0) :: (.nilslice) :: (.nilslice) :: (.nilslice) :: (n 0) :: (.nilslice) :: (.nilslice) :: (.nilslice) :: (n 0) :: (.nilslice) :: (.nilslice) :: (.nilslice) :: (n 0) :: (.nilslice) :: (.nilslice) :: (.nilslice) :: (n 0) :: (.nilslice) :: (.nilslice) :: (.nilslice) :: (n 0) :: (.nilslice) :: (.nilslice) :: (.nilslice) :: (n 0) :: (.nilslice) :: (.nilslice) :: (.nilslice) :: (n 0) :: (.nilslice) :: (.nilslice) :: (.nilslice) :: (n 0) :: (.nilslice) :: (.nilslice) :: (.nilslice) :: (n 0) :: (.nilslice) :: (.nilslice) :: (.nilslice) :: (n 0) :: (.nilslice) :: (.nilslice) :: (.nilslice) :: (n 0) :: (.nilslice) :: (.nilslice) :: (.nilslice) :: (n 0) :: (.nilslice) :: (.nilslice) :: (.nilslice) :: (n 0) :: (.nilslice) :: (.nilslice) :: (.nilslice) :: (n 0) :: (.nilslice) :: (.nilslice) :: (.nilslice) :: (n 0) :: (.nilslice) :: (.nilslice) :: (.nilslice) :: (n 0) :: (.nilslice) :: (.nilslice) :: (.nilslice) :: (n 0) :: (.nilslice) :: (.nilslice) :: (.nilslice) :: (n 0) :: (.nilslice) :: (.nilslice) :: (.nilslice) :: (n 0) :: (.nilslice) :: (.nilslice) :: (.nilslice) :: (n 0) :: (.nilslice) :: (.nilslice) :: (.nilslice) :: (n 0) :: (.nilslice) :: (.nilslice) :: (.nilslice) :: (n 0) :: (.nilslice) :: (.nilslice) :: (.nilslice) :: (n 0) :: (.nilslice) :: (.nilslice) :: (.nilslice) :: (n 0) :: (.nilslice) :: (.nilslice) :: (.nilslice) :: (n 0) :: (.nilslice) :: (.nilslice) :: (.nilslice) :: (n 0) :: (.nilslice) :: (.nilslice) :: (.nilslice) :: (n 0) :: (.nilslice) :: (.nilslice) :: (.nilslice) :: (n 0) :: (.nilslice) :: (.nilslice) :: (.nilslice) :: (n 0) :: (.nilslice) :: (.nilslice) :: (.nilslice) :: (n 0) :: (.nilslice) :: (.nilslice) :: (.nilslice) :: (n 0) :: (.nilslice) :: (.nilslice) :: (.nilslice) :: (n 0) :: (.nilslice) :: (.nilslice) :: (.nilslice) :: (n 0) :: (.nilslice) :: (.nilslice) :: (.nilslice) :: (n 0) :: (.nilslice) :: (.nilslice) :: (.nilslice) :: (n 0) :: (.nilslice) :: (.nilslice) :: (.nilslice) :: (n 0) :: (.nilslice) :: (.nilslice) :: (.nilslice) :: (n 0) :: (.nilslice) :: (.nilslice) :: (.nilslice) :: (n 0) :: (.nilslice) :: (.nilslice) :: (.nilslice) :: (n 0) :: (.nilslice) :: (.nilslice) :: (.nilslice) :: (n 0) :: (.nilslice) :: (.nilslice) :: (.nilslice) :: (n 0) :: (.nilslice) :: (.nilslice) :: (.nilslice) :: (n 0) :: (.nilslice) :: (.nilslice) :: (.nilslice) :: (n 0) :: (.nilslice) :: (.nilslice) :: (.nilslice) :: (n 0) :: (.nilslice) :: (.nilslice) :: (.nilslice) :: (n 0) :: (.nilslice) :: (.nilslice) :: (.nilslice) :: (n 0) :: (.nilslice) :: (.nilslice) :: (.nilslice) :: (n 0) :: (.nilslice) :: (.nilslice) :: (.nilslice) :: (n 0) :: (.nilslice) :: (.nilslice) :: (.nilslice) :: (n 0) :: (.nilslice) :: (.nilslice) :: (.nilslice) :: (n 0) :: (.nilslice) :: (.nilslice) :: (.nilslice) :: (n 0) :: (.nilslice) :: (.nilslice) :: (.nilslice) :: (n 0) :: (.nilslice) :: (.nilslice) :: (.nilslice) :: (n 0) :: (.nilslice) :: (.nilslice) :: (.nilslice) :: [])),
    (42, .cells [n 2, .nilslice, .nilslice, .nilslice]),
    (39, .cells [n 3, n 4]),
    (38, .cells [n 4, n 3]),
    (37, .cells [n 1, .nilslice, .slice 17 0 2 3, .nilslice, n 2, .nilslice, .slice 22 0 1 3, .nilslice, n 3, .nilslice, .slice 29 0 2 3, .nilslice, n 4, .nilslice, .slice 36 0 2 3, .nilslice]),
    (36, .cells [n 4, bf, .nilslice, n 3, bf, .nilslice]),
    (29, .cells [n 0, bf, .nilslice, n 2, bt, .nilslice]),
    (22, .cells [n 1, bf, .nilslice]),
    (17, .cells [n 2, bf, .nilslice, n 0, bf, .nilslice]),
    (10, .cells [n 0]),
    (9, .cells [n 0, .nilslice, .slice 8 0 1 3, .nilslice]),
    (8, .cells [n 0, bt, .nilslice]),
    (4, .cells [n 0, .nilslice, .slice 3 0 1 3, .nilslice]),
    (3, .cells [n 0, bt, .nilslice])]
  nx := 54
  outs := [(.ret (bt),
    [(53, .cells [n 3, n 4]),
    (52, .cells [n 0]),
    (51, .cells [.nilslice, .nilslice, .nilslice, .nilslice]),
    (50, .cells [n 0, .nilslice, .nilslice, .nilslice]),
    (47, .cells [n 2, .slice 46 0 2 2]),
    (46, .cells [n 0, .nilslice, n 0, .nilslice]),
    (44, .cells [n 2]),
    (43, .cells ((n 0) :: (.nilslice) :: (.nilslice) :: (.nilslice) :: (n 0) :: (.nilslice) :: (.nilslice) :: (.nilslice) :: (n 0) :: (.nilslice) :: (.nilslice) :: (.nilslice) :: (n 0) :: (.nilslice) :: (.nilslice) :: (.nilslice) :: (n 0) :: (.nilslice) :: (.nilslice) :: (.nilslice) :: (n 0) :: (.nilslice) :: (.nilslice) :: (.nilslice) :: (n 0) :: (.nilslice) :: (.nilslice) :: (.nilslice) :: (n 0) :: (.nilslice) :: (.nilslice) :: (.nilslice) :: (n 0) :: (.nilslice) :: (.nilslice) :: (.nilslice) :: (n 0) :: (.nilslice) :: (.nilslice) :: (.nilslice) :: (n 0) :: (.nilslice) :: (.nilslice) :: (.nilslice) :: (n 0) :: (.nilslice) :: (.nilslice) :: (.nilslice) :: (n 0) :: (.nilslice) :: (.nilslice) :: (.nilslice) :: (n 0) :: (.nilslice) :: (.nilslice) :: (.nilslice) :: (n 0) :: (.nilslice) :: (.nilslice) :: (.nilslice) :: (n 0) :: (.nilslice) :: (.nilslice) :: (.nilslice) :: (n 0) :: (.nilslice) :: (.nilslice) :: (.nilslice) :: (n 0) :: (.nilslice) :: (.nilslice) :: (.nilslice) :: (n 0) :: (.nilslice) :: (.nilslice) :: (.nilslice) :: (n 0) :: (.nilslice) :: (.nilslice) :: (.nilslice) :: (n 0) :: (.nilslice) :: (.nilslice) :: (.nilslice) :: (n 0) :: (.nilslice) :: (.nilslice) :: (.nilslice) :: (n 0) :: (.nilslice) :: (.nilslice) :: (.nilslice) :: (n 0) :: (.nilslice) :: (.nilslice) :: (.nilslice) :: (n 0) :: (.nilslice) :: (.nilslice) :: (.nilslice) :: (n 0) :: (.nilslice) :: (.nilslice) :: (.nilslice) :: (n 0) :: (.nilslice) :: (.nilslice) :: (.nilslice) :: (n 0) :: (.nilslice) :: (.nilslice) :: (.nilslice) :: (n 0) :: (.nilslice) :: (.nilslice) :: (.nilslice) :: (n 0) :: (.nilslice) :: (.nilslice) :: (.nilslice) :: (n 0) :: (.nilslice) :: (.nilslice) :: (.nilslice) :: (n 0) :: (.nilslice) :: (.nilslice) :: (.nilslice) :: (n 0) :: (.nilslice) :: (.nilslice) :: (.nilslice) :: (n 0) :: (.nilslice) :: (.nilslice) :: (.nilslice) :: (n 0) :: (.nilslice) :: (.nilslice) :: (.nilslice) :: (n 0) :: (.nilslice) :: (.nilslice) :: (.nilslice) :: (n 0) :: (.nilslice) :: (.nilslice) :: (.nilslice) :: (n 0) :: (.nilslice) :: (.nilslice) :: (.nilslice) :: (n 0) :: (.nilslice) :: (.nilslice) :: (.nilslice) :: (n 0) :: (.nilslice) :: (.nilslice) :: (.nilslice) :: (n 0) :: (.nilslice) :: (.nilslice) :: (.nilslice) :: (n 0) :: (.nilslice) :: (.nilslice) :: (.nilslice) :: (n 0) :: (.nilslice) :: (.nilslice) :: (.nilslice) :: (n 0) :: (.nilslice) :: (.nilslice) :: (.nilslice) :: (n 0) :: (.nilslice) :: (.nilslice) :: (.nilslice) :: (n 0) :: (.nilslice) :: (.nilslice) :: (.nilslice) :: (n 0) :: (.nilslice) :: (.nilslice) :: (.nilslice) :: (n 0) :: (.nilslice) :: (.nilslice) :: (.nilslice) :: (n 0) :: (.nilslice) :: (.nilslice) :: (.nilslice) :: (n 0) :: (.nilslice) :: (.nilslice) :: (.nilslice) :: (n 0) :: (.nilslice) :: (.nilslice) :: (.nilslice) :: (n 0) :: (.nilslice) :: (.nilslice) :: (.nilslice) :: (n 0) :: (.nilslice) :: (.nilslice) :: (.nilslice) :: (n 0) :: (.nilslice) :: (.nilslice) :: (.nilslice) :: (n 0) :: (.nilslice) :: (.nilslice) :: (.nilslice) :: (n 0) :: (.nilslice) :: (.nilslice) :: (.nilslice) :: (n 0) :: (.nilslice) :: (.nilslice) :: (.nilslice) :: (n 0) :: (.nilslice) :: (.nilslice) :: (.nilslice) :: (n 0) :: (.nilslice) :: (.nilslice) :: (.nilslice) :: (n 0) :: (.nilslice) :: (.nilslice) :: (.nilslice) :: (n 0) :: (.nilslice) :: (.nilslice) :: (.nilslice) :: [])),
    (42, .cells [n 2, .nilslice, .nilslice, .nilslice]),
    (39, .cells [n 3, n 4]),
    (38, .cells [n 4, n 3]),
    (37, .cells [n 1, .nilslice, .slice 17 0 2 3, .nilslice, n 2, .nilslice, .slice 22 0 1 3, .nilslice, n 3, .nilslice, .slice 29 0 2 3, .nilslice, n 4, .nilslice, .slice 36 0 2 3, .nilslice]),
    (36, .cells [n 4, bf, .nilslice, n 3, bf, .nilslice]),
    (29, .cells [n 0, bf, .nilslice, n 2, bt, .nilslice]),
    (22, .cells [n 1, bf, .nilslice]),
    (17, .cells [n 2, bf, .nilslice, n 0, bf, .nilslice]),
    (10, .cells [n 0]),
    (9, .cells [n 0, .nilslice, .slice 8 0 1 3, .nilslice]),
    (8, .cells [n 0, bt, .nilslice]),
    (4, .cells [n 0, .nilslice, .slice 3 0 1 3, .nilslice]),
    (3, .cells [n 0, bt, .nilslice])], 54)]
theorem r35 : callK T [k22, k26, k28, k32, k34] 400 60 false k35.f k35.args k35.h k35.nx = some k35.outs := by kernel_rfl
theorem f35 : Fact Tryz.prog T k35.f k35.args k35.h k35.nx k35.outs := piece_ok mixed tabOK (l := [k22, k26, k28, k32, k34]) (List.forall_mem_cons.2 ⟨f22, (List.forall_mem_cons.2 ⟨f26, (List.forall_mem_cons.2 ⟨f28, (List.forall_mem_cons.2 ⟨f32, (List.forall_mem_cons.2 ⟨f34, no_known⟩)⟩)⟩)⟩)⟩) 400 60 r35
end Go.Proofs.YtbbepcgjinfljaaGreatDoor
