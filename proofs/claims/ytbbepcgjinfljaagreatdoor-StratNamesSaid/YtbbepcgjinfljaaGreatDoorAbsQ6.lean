/- A piece of the run: one call of function 7, from what it is handed to what it leaves. -/
import Derived.Test.YtbbepcgjinfljaaGreatDoorAbsQ0
namespace Go.Proofs.YtbbepcgjinfljaaGreatDoor
open Go.Abs
set_option maxRecDepth 20000 in
noncomputable def k6 : Known where
  f := 7
  args := [n 5, .slice 37 0 4 4, .slice 38 0 2 1]
  h := [(38, .cells [n 4, n 3]),
    (37, .cells [n 1, .nilslice, .slice 17 0 2 3, .nilslice, n 2, .nilslice, .slice 22 0 1 3, .nilslice, n 3, .nilslice, .slice 29 0 2 3, .nilslice, n 4, .nilslice, .slice 36 0 2 3, .nilslice]),
    (36, .cells [n 4, bf, .nilslice, n 3, bf, .nilslice]),
    (29, .cells [n 0, bf, .nilslice, n 2, bt, .nilslice]),
    (22, .cells [n 1, bf, .nilslice]),
    (17, .cells [n 2, bf, .nilslice, n 0, bf, .nilslice]),
    (10, .cells [n 0]),
    (9, .cells [n 0, .nilslice, .slice 8 0 1 3, .nilslice]),
    (8, .cells [n 0, bt, .nilslice]),
    (4, .cells [n 0, .nilslice, .slice 3 0 1 3, .nilslice]),
    (3, .cells [n 0, bt, .nilslice])]
  nx := 39
  outs := [(.ret (.tuple [.slice 39 0 2 1, n 0]),
    [(39, .cells [n 3, n 4]),
    (38, .cells [n 4, n 3]),
    (37, .cells [n 1, .nilslice, .slice 17 0 2 3, .nilslice, n 2, .nilslice, .slice 22 0 1 3, .nilslice, n 3, .nilslice, .slice 29 0 2 3, .nilslice, n 4, .nilslice, .slice 36 0 2 3, .nilslice]),
    (36, .cells [n 4, bf, .nilslice, n 3, bf, .nilslice]),
    (29, .cells [n 0, bf, .nilslice, n 2, bt, .nilslice]),
    (22, .cells [n 1, bf, .nilslice]),
    (17, .cells [n 2, bf, .nilslice, n 0, bf, .nilslice]),
    (10, .cells [n 0]),
    (9, .cells [n 0, .nilslice, .slice 8 0 1 3, .nilslice]),
    (8, .cells [n 0, bt, .nilslice]),
    (4, .cells [n 0, .nilslice, .slice 3 0 1 3, .nilslice]),
    (3, .cells [n 0, bt, .nilslice])], 40)]
theorem r6 : callK T [] 400 60 false k6.f k6.args k6.h k6.nx = some k6.outs := by kernel_rfl
theorem f6 : Fact Tryz.prog T k6.f k6.args k6.h k6.nx k6.outs := piece_ok mixed tabOK (l := []) no_known 400 60 r6
end Go.Proofs.YtbbepcgjinfljaaGreatDoor
