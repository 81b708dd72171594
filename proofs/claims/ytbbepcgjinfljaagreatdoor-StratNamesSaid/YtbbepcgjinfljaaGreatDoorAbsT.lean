/- The tables of the abstract run: the functions that it comes to, and what it knows of types. -/
import Derived.Test.YtbbepcgjinfljaaGreatDoorAbsB
import Derived.Test.YtbbepcgjinfljaaGreatDoorRows
namespace Go.Proofs.YtbbepcgjinfljaaGreatDoor
open Go.Abs
noncomputable def fnL : List (FuncId × Func) := [(3, Tryz.f3), (4, Tryz.f4), (5, Tryz.f5), (6, Tryz.f6), (7, Tryz.f7), (8, Tryz.f8), (9, Tryz.f9), (10, Tryz.f10), (11, Tryz.f11), (12, Tryz.f12), (13, Tryz.f13), (14, Tryz.f14), (15, Tryz.f15), (16, Tryz.f16), (17, Tryz.f17), (18, Tryz.f18), (19, Tryz.f19), (20, Tryz.f20), (21, Tryz.f21), (22, Tryz.f22), (23, Tryz.f23), (24, Tryz.f24), (25, Tryz.f25), (26, Tryz.f26), (27, Tryz.f27), (28, Tryz.f28), (29, Tryz.f29), (30, Tryz.f30), (31, Tryz.f31), (32, Tryz.f32), (40, Tryz.f40), (41, Tryz.f41), (42, Tryz.f42), (43, Tryz.f43), (44, Tryz.f44), (45, Tryz.f45), (46, Tryz.f46), (47, Tryz.f47), (48, Tryz.f48), (49, Tryz.f49), (50, Tryz.f50), (51, Tryz.f51), (52, Tryz.f52), (62, Tryz.f62), (63, Tryz.f63), (64, Tryz.f64), (65, Tryz.f65), (73, Tryz.f73), (79, Tryz.f79), (80, Tryz.f80), (113, Tryz.f113)]
def tyL : List (TypeId × TyI) := [
  (3, ⟨.int .i64, 1, .int .i64 0⟩),
  (69, ⟨.struct [(3, 0), (3, 1)], 2, .agg [.int .i64 0, .int .i64 0]⟩),
  (35, ⟨.slice 3, 1, .nilslice⟩),
  (4, ⟨.other, 1, .bool false⟩),
  (83, ⟨.map 69 4, 1, .nilmap⟩),
  (85, ⟨.struct [(3, 0), (83, 1)], 2, .agg [.int .i64 0, .nilmap]⟩),
  (1, ⟨.other, 1, .nilfunc⟩),
  (20, ⟨.iface, 1, .niliface⟩),
  (22, ⟨.slice 35, 1, .nilslice⟩),
  (23, ⟨.int .i64, 1, .int .i64 0⟩),
  (27, ⟨.slice 58, 1, .nilslice⟩),
  (30, ⟨.struct [(26, 0), (27, 1), (28, 2)], 3, .agg [.nilslice, .nilslice, .nilslice]⟩),
  (32, ⟨.struct [(3, 0), (30, 1)], 4, .agg [.int .i64 0, .nilslice, .nilslice, .nilslice]⟩),
  (34, ⟨.slice 32, 1, .nilslice⟩),
  (41, ⟨.slice 48, 1, .nilslice⟩),
  (42, ⟨.slice 93, 1, .nilslice⟩),
  (44, ⟨.struct [(40, 0), (41, 1), (42, 2), (35, 3)], 4, .agg [.nilslice, .nilslice, .nilslice, .nilslice]⟩),
  (48, ⟨.struct [(3, 0), (41, 1)], 2, .agg [.int .i64 0, .nilslice]⟩),
  (53, ⟨.other, 1, .nilptr⟩),
  (54, ⟨.other, 1, .nilptr⟩),
  (58, ⟨.struct [(3, 0), (4, 1), (26, 2)], 3, .agg [.int .i64 0, .bool false, .nilslice]⟩),
  (59, ⟨.other, 1, .nilfunc⟩),
  (60, ⟨.other, 1, .nilfunc⟩),
  (61, ⟨.other, 1, .nilfunc⟩),
  (63, ⟨.other, 1, .nilfunc⟩),
  (65, ⟨.struct [(63, 0)], 1, .agg [.nilfunc]⟩),
  (66, ⟨.array 2 65, 2, .agg [.nilfunc, .nilfunc]⟩),
  (73, ⟨.struct [(3, 0)], 1, .agg [.int .i64 0]⟩),
  (74, ⟨.other, 1, .nilfunc⟩),
  (75, ⟨.array 48 4, 48, .agg (List.replicate 48 (.bool false))⟩),
  (76, ⟨.array 48 75, 2304, .agg (List.replicate 2304 (.bool false))⟩),
  (79, ⟨.other, 1, .nilfunc⟩),
  (82, ⟨.slice 86, 1, .nilslice⟩),
  (86, ⟨.slice 30, 1, .nilslice⟩),
  (88, ⟨.other, 1, .nilfunc⟩),
  (91, ⟨.other, 1, .nilfunc⟩),
  (93, ⟨.struct [(3, 0), (3, 1), (35, 2), (28, 3), (48, 4), (86, 6)], 7, .agg [.int .i64 0, .int .i64 0, .nilslice, .nilslice, .int .i64 0, .nilslice, .nilslice]⟩),
  (98, ⟨.struct [(23, 0)], 1, .agg [.int .i64 0]⟩),
  (101, ⟨.struct [(73, 0), (27, 1)], 2, .agg [.int .i64 0, .nilslice]⟩),
  (103, ⟨.iface, 1, .niliface⟩),
  (105, ⟨.slice 4, 1, .nilslice⟩),
  (109, ⟨.other, 1, .nilfunc⟩),
  (146, ⟨.int .u64, 1, .int .u64 0⟩),
  (154, ⟨.int .u32, 1, .int .u32 0⟩),
  (157, ⟨.int .u64, 1, .int .u64 0⟩)]
noncomputable def look {α : Type} (n : Nat) (l : List (Nat × α)) : Option α :=
  lrec none (fun e _ r => match Nat.beq e.1 n with
    | true => some e.2
    | false => r) l
def forgetL : List (Nat × List (List Bool)) := [
  (16, [[false, false, false, true, true, false, false, false], [false, false, false, false, true, true, true, true], [true, true, true, true, true, true, true, true], [true, true, true, true, true, true, true, true], [true, false, false, false, false, false, false, false]]),
  (43, [[false, false, false, false, false, false, true, false], [false, false, false, false, true, true, true, true], [true, true, true, true, true, true, true, true], [true, true, true, true, true, true, true, true], [true, true, true, true, true, true, true, true]]),
  (40, [[false, false, false, false, false, false, false, false], [false, true, true, true, false, false, false, false], [false, false, false, false, true, true, true, true], [true, false, true, true, true, true, true, true], [true, true, true, true, true, true, true, true], [true, true, true, true, true, true, true, true], [true, true, true, false, false, false, false, false]])]
noncomputable def T : Tab where
  fn f := look f fnL
  ty t := look t tyL
  meth t m := if Nat.beq t 101 && m == "deltaworks/strat.clear" then some 113 else none
  key t := Nat.beq t 69
  gc f := !(Nat.beq f 45 || Nat.beq f 28)
  canon f := memN f [4, 6, 7, 9, 12, 16, 17, 40, 43]
  forget f := look f forgetL
def isTrue : Option (List OutF) → Bool
  | some [(.ret (.bool true), _, _)] => true
  | _ => false
def isOne : Option (List OutF) → Bool
  | some [_] => true
  | _ => false
end Go.Proofs.YtbbepcgjinfljaaGreatDoor
