/- The tables say what the program says. -/
import Derived.Test.YtbbepcgjinfljaaGreatDoorAbsF
import Derived.Test.YtbbepcgjinfljaaGreatDoorAbsT
namespace Go.Proofs.YtbbepcgjinfljaaGreatDoor
open Go.Abs Go.RowKit

section
variable {P : Program} {t : TypeId} {inf : TypeInfo} {i : TyI}
theorem info_of (h : P.types[t]? = some inf) : P.info? t = some inf := by
  have hlt : t < P.types.size := (Array.getElem?_eq_some_iff.1 h).1
  unfold Tables.info?
  simp [hlt] at h ⊢
  exact h
theorem ty_of (hi : P.types[t]? = some inf) (hs : inf.size = i.size) (hz : inf.zero = some (conc beta0 i.zero)) (hb : inf.bytes ≤ 1048576) (hn : i.zero.ids = []) (hp : 0 < i.size) (hc : i.zero.cells.length = i.size)
    {d : TypeDesc} (hu : P.underlying t = some d) (hk : KindOK P d i.kind) : TyOK P t i := ⟨⟨inf, info_of hi, hs, hz, hb⟩, hn, hp, hc, d, hu, hk⟩
theorem fields_of (fs : List Field) (h : fs.all (fun f => match P.info? f.type with | some i => !Nat.beq i.size 0 | none => false) = true) : ∀ f ∈ fs, ∃ inf, P.info? f.type = some inf ∧ inf.size ≠ 0 := by
  intro f hf
  have := List.all_eq_true.1 h f hf
  split at this
  · rename_i i hi
    refine ⟨i, hi, fun h0 => ?_⟩
    rw [h0] at this; cases this
  · cases this
end

theorem ty3 : TyOK Tryz.prog 3 ⟨.int .i64, 1, .int .i64 0⟩ := ty_of (inf := Tryz.t3) Tryz.type3 (by kernel_rfl) (by kernel_rfl) (Nat.le_of_ble_eq_true (by kernel_rfl)) (by kernel_rfl) (Nat.lt_of_lt_of_le Nat.zero_lt_one (Nat.le_of_ble_eq_true (by kernel_rfl))) (by kernel_rfl) Tryz.underlying3 rfl
theorem ty69 : TyOK Tryz.prog 69 ⟨.struct [(3, 0), (3, 1)], 2, .agg [.int .i64 0, .int .i64 0]⟩ := ty_of (inf := Tryz.t69) Tryz.type69 (by kernel_rfl) (by kernel_rfl) (Nat.le_of_ble_eq_true (by kernel_rfl)) (by kernel_rfl) (Nat.lt_of_lt_of_le Nat.zero_lt_one (Nat.le_of_ble_eq_true (by kernel_rfl))) (by kernel_rfl) Tryz.underlying69 ⟨_, rfl, by kernel_rfl, fields_of _ (by kernel_rfl)⟩
theorem ty35 : TyOK Tryz.prog 35 ⟨.slice 3, 1, .nilslice⟩ := ty_of (inf := Tryz.t35) Tryz.type35 (by kernel_rfl) (by kernel_rfl) (Nat.le_of_ble_eq_true (by kernel_rfl)) (by kernel_rfl) (Nat.lt_of_lt_of_le Nat.zero_lt_one (Nat.le_of_ble_eq_true (by kernel_rfl))) (by kernel_rfl) Tryz.underlying35 rfl
theorem ty4 : TyOK Tryz.prog 4 ⟨.other, 1, .bool false⟩ := ty_of (inf := Tryz.t4) Tryz.type4 (by kernel_rfl) (by kernel_rfl) (Nat.le_of_ble_eq_true (by kernel_rfl)) (by kernel_rfl) (Nat.lt_of_lt_of_le Nat.zero_lt_one (Nat.le_of_ble_eq_true (by kernel_rfl))) (by kernel_rfl) Tryz.underlying4 ⟨(fun fs h => by cases h), (fun n e h => by cases h), (fun ms h => by cases h)⟩
theorem ty83 : TyOK Tryz.prog 83 ⟨.map 69 4, 1, .nilmap⟩ := ty_of (inf := Tryz.t83) Tryz.type83 (by kernel_rfl) (by kernel_rfl) (Nat.le_of_ble_eq_true (by kernel_rfl)) (by kernel_rfl) (Nat.lt_of_lt_of_le Nat.zero_lt_one (Nat.le_of_ble_eq_true (by kernel_rfl))) (by kernel_rfl) Tryz.underlying83 rfl
theorem ty85 : TyOK Tryz.prog 85 ⟨.struct [(3, 0), (83, 1)], 2, .agg [.int .i64 0, .nilmap]⟩ := ty_of (inf := Tryz.t85) Tryz.type85 (by kernel_rfl) (by kernel_rfl) (Nat.le_of_ble_eq_true (by kernel_rfl)) (by kernel_rfl) (Nat.lt_of_lt_of_le Nat.zero_lt_one (Nat.le_of_ble_eq_true (by kernel_rfl))) (by kernel_rfl) Tryz.underlying85 ⟨_, rfl, by kernel_rfl, fields_of _ (by kernel_rfl)⟩
theorem ty1 : TyOK Tryz.prog 1 ⟨.other, 1, .nilfunc⟩ := ty_of (inf := Tryz.t1) Tryz.type1 (by kernel_rfl) (by kernel_rfl) (Nat.le_of_ble_eq_true (by kernel_rfl)) (by kernel_rfl) (Nat.lt_of_lt_of_le Nat.zero_lt_one (Nat.le_of_ble_eq_true (by kernel_rfl))) (by kernel_rfl) Tryz.underlying1 ⟨(fun fs h => by cases h), (fun n e h => by cases h), (fun ms h => by cases h)⟩
theorem ty20 : TyOK Tryz.prog 20 ⟨.iface, 1, .niliface⟩ := ty_of (inf := Tryz.t20) Tryz.type20 (by kernel_rfl) (by kernel_rfl) (Nat.le_of_ble_eq_true (by kernel_rfl)) (by kernel_rfl) (Nat.lt_of_lt_of_le Nat.zero_lt_one (Nat.le_of_ble_eq_true (by kernel_rfl))) (by kernel_rfl) Tryz.underlying20 ⟨_, rfl⟩
theorem ty22 : TyOK Tryz.prog 22 ⟨.slice 35, 1, .nilslice⟩ := ty_of (inf := Tryz.t22) Tryz.type22 (by kernel_rfl) (by kernel_rfl) (Nat.le_of_ble_eq_true (by kernel_rfl)) (by kernel_rfl) (Nat.lt_of_lt_of_le Nat.zero_lt_one (Nat.le_of_ble_eq_true (by kernel_rfl))) (by kernel_rfl) Tryz.underlying22 rfl
theorem ty23 : TyOK Tryz.prog 23 ⟨.int .i64, 1, .int .i64 0⟩ := ty_of (inf := Tryz.t23) Tryz.type23 (by kernel_rfl) (by kernel_rfl) (Nat.le_of_ble_eq_true (by kernel_rfl)) (by kernel_rfl) (Nat.lt_of_lt_of_le Nat.zero_lt_one (Nat.le_of_ble_eq_true (by kernel_rfl))) (by kernel_rfl) Tryz.underlying23 rfl
theorem ty27 : TyOK Tryz.prog 27 ⟨.slice 58, 1, .nilslice⟩ := ty_of (inf := Tryz.t27) Tryz.type27 (by kernel_rfl) (by kernel_rfl) (Nat.le_of_ble_eq_true (by kernel_rfl)) (by kernel_rfl) (Nat.lt_of_lt_of_le Nat.zero_lt_one (Nat.le_of_ble_eq_true (by kernel_rfl))) (by kernel_rfl) Tryz.underlying27 rfl
theorem ty30 : TyOK Tryz.prog 30 ⟨.struct [(26, 0), (27, 1), (28, 2)], 3, .agg [.nilslice, .nilslice, .nilslice]⟩ := ty_of (inf := Tryz.t30) Tryz.type30 (by kernel_rfl) (by kernel_rfl) (Nat.le_of_ble_eq_true (by kernel_rfl)) (by kernel_rfl) (Nat.lt_of_lt_of_le Nat.zero_lt_one (Nat.le_of_ble_eq_true (by kernel_rfl))) (by kernel_rfl) Tryz.underlying30 ⟨_, rfl, by kernel_rfl, fields_of _ (by kernel_rfl)⟩
theorem ty32 : TyOK Tryz.prog 32 ⟨.struct [(3, 0), (30, 1)], 4, .agg [.int .i64 0, .nilslice, .nilslice, .nilslice]⟩ := ty_of (inf := Tryz.t32) Tryz.type32 (by kernel_rfl) (by kernel_rfl) (Nat.le_of_ble_eq_true (by kernel_rfl)) (by kernel_rfl) (Nat.lt_of_lt_of_le Nat.zero_lt_one (Nat.le_of_ble_eq_true (by kernel_rfl))) (by kernel_rfl) Tryz.underlying32 ⟨_, rfl, by kernel_rfl, fields_of _ (by kernel_rfl)⟩
theorem ty34 : TyOK Tryz.prog 34 ⟨.slice 32, 1, .nilslice⟩ := ty_of (inf := Tryz.t34) Tryz.type34 (by kernel_rfl) (by kernel_rfl) (Nat.le_of_ble_eq_true (by kernel_rfl)) (by kernel_rfl) (Nat.lt_of_lt_of_le Nat.zero_lt_one (Nat.le_of_ble_eq_true (by kernel_rfl))) (by kernel_rfl) Tryz.underlying34 rfl
theorem ty41 : TyOK Tryz.prog 41 ⟨.slice 48, 1, .nilslice⟩ := ty_of (inf := Tryz.t41) Tryz.type41 (by kernel_rfl) (by kernel_rfl) (Nat.le_of_ble_eq_true (by kernel_rfl)) (by kernel_rfl) (Nat.lt_of_lt_of_le Nat.zero_lt_one (Nat.le_of_ble_eq_true (by kernel_rfl))) (by kernel_rfl) Tryz.underlying41 rfl
theorem ty42 : TyOK Tryz.prog 42 ⟨.slice 93, 1, .nilslice⟩ := ty_of (inf := Tryz.t42) Tryz.type42 (by kernel_rfl) (by kernel_rfl) (Nat.le_of_ble_eq_true (by kernel_rfl)) (by kernel_rfl) (Nat.lt_of_lt_of_le Nat.zero_lt_one (Nat.le_of_ble_eq_true (by kernel_rfl))) (by kernel_rfl) Tryz.underlying42 rfl
theorem ty44 : TyOK Tryz.prog 44 ⟨.struct [(40, 0), (41, 1), (42, 2), (35, 3)], 4, .agg [.nilslice, .nilslice, .nilslice, .nilslice]⟩ := ty_of (inf := Tryz.t44) Tryz.type44 (by kernel_rfl) (by kernel_rfl) (Nat.le_of_ble_eq_true (by kernel_rfl)) (by kernel_rfl) (Nat.lt_of_lt_of_le Nat.zero_lt_one (Nat.le_of_ble_eq_true (by kernel_rfl))) (by kernel_rfl) Tryz.underlying44 ⟨_, rfl, by kernel_rfl, fields_of _ (by kernel_rfl)⟩
theorem ty48 : TyOK Tryz.prog 48 ⟨.struct [(3, 0), (41, 1)], 2, .agg [.int .i64 0, .nilslice]⟩ := ty_of (inf := Tryz.t48) Tryz.type48 (by kernel_rfl) (by kernel_rfl) (Nat.le_of_ble_eq_true (by kernel_rfl)) (by kernel_rfl) (Nat.lt_of_lt_of_le Nat.zero_lt_one (Nat.le_of_ble_eq_true (by kernel_rfl))) (by kernel_rfl) Tryz.underlying48 ⟨_, rfl, by kernel_rfl, fields_of _ (by kernel_rfl)⟩
theorem ty53 : TyOK Tryz.prog 53 ⟨.other, 1, .nilptr⟩ := ty_of (inf := Tryz.t53) Tryz.type53 (by kernel_rfl) (by kernel_rfl) (Nat.le_of_ble_eq_true (by kernel_rfl)) (by kernel_rfl) (Nat.lt_of_lt_of_le Nat.zero_lt_one (Nat.le_of_ble_eq_true (by kernel_rfl))) (by kernel_rfl) Tryz.underlying53 ⟨(fun fs h => by cases h), (fun n e h => by cases h), (fun ms h => by cases h)⟩
theorem ty54 : TyOK Tryz.prog 54 ⟨.other, 1, .nilptr⟩ := ty_of (inf := Tryz.t54) Tryz.type54 (by kernel_rfl) (by kernel_rfl) (Nat.le_of_ble_eq_true (by kernel_rfl)) (by kernel_rfl) (Nat.lt_of_lt_of_le Nat.zero_lt_one (Nat.le_of_ble_eq_true (by kernel_rfl))) (by kernel_rfl) Tryz.underlying54 ⟨(fun fs h => by cases h), (fun n e h => by cases h), (fun ms h => by cases h)⟩
theorem ty58 : TyOK Tryz.prog 58 ⟨.struct [(3, 0), (4, 1), (26, 2)], 3, .agg [.int .i64 0, .bool false, .nilslice]⟩ := ty_of (inf := Tryz.t58) Tryz.type58 (by kernel_rfl) (by kernel_rfl) (Nat.le_of_ble_eq_true (by kernel_rfl)) (by kernel_rfl) (Nat.lt_of_lt_of_le Nat.zero_lt_one (Nat.le_of_ble_eq_true (by kernel_rfl))) (by kernel_rfl) Tryz.underlying58 ⟨_, rfl, by kernel_rfl, fields_of _ (by kernel_rfl)⟩
theorem ty59 : TyOK Tryz.prog 59 ⟨.other, 1, .nilfunc⟩ := ty_of (inf := Tryz.t59) Tryz.type59 (by kernel_rfl) (by kernel_rfl) (Nat.le_of_ble_eq_true (by kernel_rfl)) (by kernel_rfl) (Nat.lt_of_lt_of_le Nat.zero_lt_one (Nat.le_of_ble_eq_true (by kernel_rfl))) (by kernel_rfl) Tryz.underlying59 ⟨(fun fs h => by cases h), (fun n e h => by cases h), (fun ms h => by cases h)⟩
theorem ty60 : TyOK Tryz.prog 60 ⟨.other, 1, .nilfunc⟩ := ty_of (inf := Tryz.t60) Tryz.type60 (by kernel_rfl) (by kernel_rfl) (Nat.le_of_ble_eq_true (by kernel_rfl)) (by kernel_rfl) (Nat.lt_of_lt_of_le Nat.zero_lt_one (Nat.le_of_ble_eq_true (by kernel_rfl))) (by kernel_rfl) Tryz.underlying60 ⟨(fun fs h => by cases h), (fun n e h => by cases h), (fun ms h => by cases h)⟩
theorem ty61 : TyOK Tryz.prog 61 ⟨.other, 1, .nilfunc⟩ := ty_of (inf := Tryz.t61) Tryz.type61 (by kernel_rfl) (by kernel_rfl) (Nat.le_of_ble_eq_true (by kernel_rfl)) (by kernel_rfl) (Nat.lt_of_lt_of_le Nat.zero_lt_one (Nat.le_of_ble_eq_true (by kernel_rfl))) (by kernel_rfl) Tryz.underlying61 ⟨(fun fs h => by cases h), (fun n e h => by cases h), (fun ms h => by cases h)⟩
theorem ty63 : TyOK Tryz.prog 63 ⟨.other, 1, .nilfunc⟩ := ty_of (inf := Tryz.t63) Tryz.type63 (by kernel_rfl) (by kernel_rfl) (Nat.le_of_ble_eq_true (by kernel_rfl)) (by kernel_rfl) (Nat.lt_of_lt_of_le Nat.zero_lt_one (Nat.le_of_ble_eq_true (by kernel_rfl))) (by kernel_rfl) Tryz.underlying63 ⟨(fun fs h => by cases h), (fun n e h => by cases h), (fun ms h => by cases h)⟩
theorem ty65 : TyOK Tryz.prog 65 ⟨.struct [(63, 0)], 1, .agg [.nilfunc]⟩ := ty_of (inf := Tryz.t65) Tryz.type65 (by kernel_rfl) (by kernel_rfl) (Nat.le_of_ble_eq_true (by kernel_rfl)) (by kernel_rfl) (Nat.lt_of_lt_of_le Nat.zero_lt_one (Nat.le_of_ble_eq_true (by kernel_rfl))) (by kernel_rfl) Tryz.underlying65 ⟨_, rfl, by kernel_rfl, fields_of _ (by kernel_rfl)⟩
theorem ty66 : TyOK Tryz.prog 66 ⟨.array 2 65, 2, .agg [.nilfunc, .nilfunc]⟩ := ty_of (inf := Tryz.t66) Tryz.type66 (by kernel_rfl) (by kernel_rfl) (Nat.le_of_ble_eq_true (by kernel_rfl)) (by kernel_rfl) (Nat.lt_of_lt_of_le Nat.zero_lt_one (Nat.le_of_ble_eq_true (by kernel_rfl))) (by kernel_rfl) Tryz.underlying66 rfl
theorem ty73 : TyOK Tryz.prog 73 ⟨.struct [(3, 0)], 1, .agg [.int .i64 0]⟩ := ty_of (inf := Tryz.t73) Tryz.type73 (by kernel_rfl) (by kernel_rfl) (Nat.le_of_ble_eq_true (by kernel_rfl)) (by kernel_rfl) (Nat.lt_of_lt_of_le Nat.zero_lt_one (Nat.le_of_ble_eq_true (by kernel_rfl))) (by kernel_rfl) Tryz.underlying73 ⟨_, rfl, by kernel_rfl, fields_of _ (by kernel_rfl)⟩
theorem ty74 : TyOK Tryz.prog 74 ⟨.other, 1, .nilfunc⟩ := ty_of (inf := Tryz.t74) Tryz.type74 (by kernel_rfl) (by kernel_rfl) (Nat.le_of_ble_eq_true (by kernel_rfl)) (by kernel_rfl) (Nat.lt_of_lt_of_le Nat.zero_lt_one (Nat.le_of_ble_eq_true (by kernel_rfl))) (by kernel_rfl) Tryz.underlying74 ⟨(fun fs h => by cases h), (fun n e h => by cases h), (fun ms h => by cases h)⟩
theorem ty75 : TyOK Tryz.prog 75 ⟨.array 48 4, 48, .agg (List.replicate 48 (.bool false))⟩ := ty_of (inf := Tryz.t75) Tryz.type75 (by kernel_rfl) (by kernel_rfl) (Nat.le_of_ble_eq_true (by kernel_rfl)) (by kernel_rfl) (Nat.lt_of_lt_of_le Nat.zero_lt_one (Nat.le_of_ble_eq_true (by kernel_rfl))) (by kernel_rfl) Tryz.underlying75 rfl
theorem ty76 : TyOK Tryz.prog 76 ⟨.array 48 75, 2304, .agg (List.replicate 2304 (.bool false))⟩ := ty_of (inf := Tryz.t76) Tryz.type76 (by kernel_rfl) (by kernel_rfl) (Nat.le_of_ble_eq_true (by kernel_rfl)) (by kernel_rfl) (Nat.lt_of_lt_of_le Nat.zero_lt_one (Nat.le_of_ble_eq_true (by kernel_rfl))) (by kernel_rfl) Tryz.underlying76 rfl
theorem ty79 : TyOK Tryz.prog 79 ⟨.other, 1, .nilfunc⟩ := ty_of (inf := Tryz.t79) Tryz.type79 (by kernel_rfl) (by kernel_rfl) (Nat.le_of_ble_eq_true (by kernel_rfl)) (by kernel_rfl) (Nat.lt_of_lt_of_le Nat.zero_lt_one (Nat.le_of_ble_eq_true (by kernel_rfl))) (by kernel_rfl) Tryz.underlying79 ⟨(fun fs h => by cases h), (fun n e h => by cases h), (fun ms h => by cases h)⟩
theorem ty82 : TyOK Tryz.prog 82 ⟨.slice 86, 1, .nilslice⟩ := ty_of (inf := Tryz.t82) Tryz.type82 (by kernel_rfl) (by kernel_rfl) (Nat.le_of_ble_eq_true (by kernel_rfl)) (by kernel_rfl) (Nat.lt_of_lt_of_le Nat.zero_lt_one (Nat.le_of_ble_eq_true (by kernel_rfl))) (by kernel_rfl) Tryz.underlying82 rfl
theorem ty86 : TyOK Tryz.prog 86 ⟨.slice 30, 1, .nilslice⟩ := ty_of (inf := Tryz.t86) Tryz.type86 (by kernel_rfl) (by kernel_rfl) (Nat.le_of_ble_eq_true (by kernel_rfl)) (by kernel_rfl) (Nat.lt_of_lt_of_le Nat.zero_lt_one (Nat.le_of_ble_eq_true (by kernel_rfl))) (by kernel_rfl) Tryz.underlying86 rfl
theorem ty88 : TyOK Tryz.prog 88 ⟨.other, 1, .nilfunc⟩ := ty_of (inf := Tryz.t88) Tryz.type88 (by kernel_rfl) (by kernel_rfl) (Nat.le_of_ble_eq_true (by kernel_rfl)) (by kernel_rfl) (Nat.lt_of_lt_of_le Nat.zero_lt_one (Nat.le_of_ble_eq_true (by kernel_rfl))) (by kernel_rfl) Tryz.underlying88 ⟨(fun fs h => by cases h), (fun n e h => by cases h), (fun ms h => by cases h)⟩
theorem ty91 : TyOK Tryz.prog 91 ⟨.other, 1, .nilfunc⟩ := ty_of (inf := Tryz.t91) Tryz.type91 (by kernel_rfl) (by kernel_rfl) (Nat.le_of_ble_eq_true (by kernel_rfl)) (by kernel_rfl) (Nat.lt_of_lt_of_le Nat.zero_lt_one (Nat.le_of_ble_eq_true (by kernel_rfl))) (by kernel_rfl) Tryz.underlying91 ⟨(fun fs h => by cases h), (fun n e h => by cases h), (fun ms h => by cases h)⟩
theorem ty93 : TyOK Tryz.prog 93 ⟨.struct [(3, 0), (3, 1), (35, 2), (28, 3), (48, 4), (86, 6)], 7, .agg [.int .i64 0, .int .i64 0, .nilslice, .nilslice, .int .i64 0, .nilslice, .nilslice]⟩ := ty_of (inf := Tryz.t93) Tryz.type93 (by kernel_rfl) (by kernel_rfl) (Nat.le_of_ble_eq_true (by kernel_rfl)) (by kernel_rfl) (Nat.lt_of_lt_of_le Nat.zero_lt_one (Nat.le_of_ble_eq_true (by kernel_rfl))) (by kernel_rfl) Tryz.underlying93 ⟨_, rfl, by kernel_rfl, fields_of _ (by kernel_rfl)⟩
theorem ty98 : TyOK Tryz.prog 98 ⟨.struct [(23, 0)], 1, .agg [.int .i64 0]⟩ := ty_of (inf := Tryz.t98) Tryz.type98 (by kernel_rfl) (by kernel_rfl) (Nat.le_of_ble_eq_true (by kernel_rfl)) (by kernel_rfl) (Nat.lt_of_lt_of_le Nat.zero_lt_one (Nat.le_of_ble_eq_true (by kernel_rfl))) (by kernel_rfl) Tryz.underlying98 ⟨_, rfl, by kernel_rfl, fields_of _ (by kernel_rfl)⟩
theorem ty101 : TyOK Tryz.prog 101 ⟨.struct [(73, 0), (27, 1)], 2, .agg [.int .i64 0, .nilslice]⟩ := ty_of (inf := Tryz.t101) Tryz.type101 (by kernel_rfl) (by kernel_rfl) (Nat.le_of_ble_eq_true (by kernel_rfl)) (by kernel_rfl) (Nat.lt_of_lt_of_le Nat.zero_lt_one (Nat.le_of_ble_eq_true (by kernel_rfl))) (by kernel_rfl) Tryz.underlying101 ⟨_, rfl, by kernel_rfl, fields_of _ (by kernel_rfl)⟩
theorem ty103 : TyOK Tryz.prog 103 ⟨.iface, 1, .niliface⟩ := ty_of (inf := Tryz.t103) Tryz.type103 (by kernel_rfl) (by kernel_rfl) (Nat.le_of_ble_eq_true (by kernel_rfl)) (by kernel_rfl) (Nat.lt_of_lt_of_le Nat.zero_lt_one (Nat.le_of_ble_eq_true (by kernel_rfl))) (by kernel_rfl) Tryz.underlying103 ⟨_, rfl⟩
theorem ty105 : TyOK Tryz.prog 105 ⟨.slice 4, 1, .nilslice⟩ := ty_of (inf := Tryz.t105) Tryz.type105 (by kernel_rfl) (by kernel_rfl) (Nat.le_of_ble_eq_true (by kernel_rfl)) (by kernel_rfl) (Nat.lt_of_lt_of_le Nat.zero_lt_one (Nat.le_of_ble_eq_true (by kernel_rfl))) (by kernel_rfl) Tryz.underlying105 rfl
theorem ty109 : TyOK Tryz.prog 109 ⟨.other, 1, .nilfunc⟩ := ty_of (inf := Tryz.t109) Tryz.type109 (by kernel_rfl) (by kernel_rfl) (Nat.le_of_ble_eq_true (by kernel_rfl)) (by kernel_rfl) (Nat.lt_of_lt_of_le Nat.zero_lt_one (Nat.le_of_ble_eq_true (by kernel_rfl))) (by kernel_rfl) Tryz.underlying109 ⟨(fun fs h => by cases h), (fun n e h => by cases h), (fun ms h => by cases h)⟩
theorem ty146 : TyOK Tryz.prog 146 ⟨.int .u64, 1, .int .u64 0⟩ := ty_of (inf := Tryz.t146) Tryz.type146 (by kernel_rfl) (by kernel_rfl) (Nat.le_of_ble_eq_true (by kernel_rfl)) (by kernel_rfl) (Nat.lt_of_lt_of_le Nat.zero_lt_one (Nat.le_of_ble_eq_true (by kernel_rfl))) (by kernel_rfl) Tryz.underlying146 rfl
theorem ty154 : TyOK Tryz.prog 154 ⟨.int .u32, 1, .int .u32 0⟩ := ty_of (inf := Tryz.t154) Tryz.type154 (by kernel_rfl) (by kernel_rfl) (Nat.le_of_ble_eq_true (by kernel_rfl)) (by kernel_rfl) (Nat.lt_of_lt_of_le Nat.zero_lt_one (Nat.le_of_ble_eq_true (by kernel_rfl))) (by kernel_rfl) Tryz.underlying154 rfl
theorem ty157 : TyOK Tryz.prog 157 ⟨.int .u64, 1, .int .u64 0⟩ := ty_of (inf := Tryz.t157) Tryz.type157 (by kernel_rfl) (by kernel_rfl) (Nat.le_of_ble_eq_true (by kernel_rfl)) (by kernel_rfl) (Nat.lt_of_lt_of_le Nat.zero_lt_one (Nat.le_of_ble_eq_true (by kernel_rfl))) (by kernel_rfl) Tryz.underlying157 rfl

theorem look_mem {α : Type} {n : Nat} {v : α} : ∀ {l : List (Nat × α)}, look n l = some v → (n, v) ∈ l := by
  intro l
  induction l with
  | nil => intro h; cases h
  | cons e r ih =>
    intro h
    have hd : look n (e :: r) = match Nat.beq e.1 n with
      | true => some e.2
      | false => look n r := rfl
    rw [hd] at h
    split at h
    · rename_i he
      have := Nat.eq_of_beq_eq_true he
      simp only [Option.some.injEq] at h
      rw [← this, ← h]; simp
    · exact List.mem_cons_of_mem _ (ih h)

set_option maxRecDepth 4000 in
theorem ty_all : ∀ e ∈ tyL, TyOK Tryz.prog e.1 e.2 := (List.forall_mem_cons.2 ⟨ty3, (List.forall_mem_cons.2 ⟨ty69, (List.forall_mem_cons.2 ⟨ty35, (List.forall_mem_cons.2 ⟨ty4, (List.forall_mem_cons.2 ⟨ty83, (List.forall_mem_cons.2 ⟨ty85, (List.forall_mem_cons.2 ⟨ty1, (List.forall_mem_cons.2 ⟨ty20, (List.forall_mem_cons.2 ⟨ty22, (List.forall_mem_cons.2 ⟨ty23, (List.forall_mem_cons.2 ⟨ty27, (List.forall_mem_cons.2 ⟨ty30, (List.forall_mem_cons.2 ⟨ty32, (List.forall_mem_cons.2 ⟨ty34, (List.forall_mem_cons.2 ⟨ty41, (List.forall_mem_cons.2 ⟨ty42, (List.forall_mem_cons.2 ⟨ty44, (List.forall_mem_cons.2 ⟨ty48, (List.forall_mem_cons.2 ⟨ty53, (List.forall_mem_cons.2 ⟨ty54, (List.forall_mem_cons.2 ⟨ty58, (List.forall_mem_cons.2 ⟨ty59, (List.forall_mem_cons.2 ⟨ty60, (List.forall_mem_cons.2 ⟨ty61, (List.forall_mem_cons.2 ⟨ty63, (List.forall_mem_cons.2 ⟨ty65, (List.forall_mem_cons.2 ⟨ty66, (List.forall_mem_cons.2 ⟨ty73, (List.forall_mem_cons.2 ⟨ty74, (List.forall_mem_cons.2 ⟨ty75, (List.forall_mem_cons.2 ⟨ty76, (List.forall_mem_cons.2 ⟨ty79, (List.forall_mem_cons.2 ⟨ty82, (List.forall_mem_cons.2 ⟨ty86, (List.forall_mem_cons.2 ⟨ty88, (List.forall_mem_cons.2 ⟨ty91, (List.forall_mem_cons.2 ⟨ty93, (List.forall_mem_cons.2 ⟨ty98, (List.forall_mem_cons.2 ⟨ty101, (List.forall_mem_cons.2 ⟨ty103, (List.forall_mem_cons.2 ⟨ty105, (List.forall_mem_cons.2 ⟨ty109, (List.forall_mem_cons.2 ⟨ty146, (List.forall_mem_cons.2 ⟨ty154, (List.forall_mem_cons.2 ⟨ty157, (fun e he => by cases he)⟩)⟩)⟩)⟩)⟩)⟩)⟩)⟩)⟩)⟩)⟩)⟩)⟩)⟩)⟩)⟩)⟩)⟩)⟩)⟩)⟩)⟩)⟩)⟩)⟩)⟩)⟩)⟩)⟩)⟩)⟩)⟩)⟩)⟩)⟩)⟩)⟩)⟩)⟩)⟩)⟩)⟩)⟩)⟩)⟩)
set_option maxRecDepth 4000 in
theorem fn_all : ∀ e ∈ fnL, Tryz.prog.funcs[e.1]? = some e.2 ∧ (e.2.name == "runtime.NumGoroutine") = false := (List.forall_mem_cons.2 ⟨⟨Tryz.func3, by kernel_rfl⟩, (List.forall_mem_cons.2 ⟨⟨Tryz.func4, by kernel_rfl⟩, (List.forall_mem_cons.2 ⟨⟨Tryz.func5, by kernel_rfl⟩, (List.forall_mem_cons.2 ⟨⟨Tryz.func6, by kernel_rfl⟩, (List.forall_mem_cons.2 ⟨⟨Tryz.func7, by kernel_rfl⟩, (List.forall_mem_cons.2 ⟨⟨Tryz.func8, by kernel_rfl⟩, (List.forall_mem_cons.2 ⟨⟨Tryz.func9, by kernel_rfl⟩, (List.forall_mem_cons.2 ⟨⟨Tryz.func10, by kernel_rfl⟩, (List.forall_mem_cons.2 ⟨⟨Tryz.func11, by kernel_rfl⟩, (List.forall_mem_cons.2 ⟨⟨Tryz.func12, by kernel_rfl⟩, (List.forall_mem_cons.2 ⟨⟨Tryz.func13, by kernel_rfl⟩, (List.forall_mem_cons.2 ⟨⟨Tryz.func14, by kernel_rfl⟩, (List.forall_mem_cons.2 ⟨⟨Tryz.func15, by kernel_rfl⟩, (List.forall_mem_cons.2 ⟨⟨Tryz.func16, by kernel_rfl⟩, (List.forall_mem_cons.2 ⟨⟨Tryz.func17, by kernel_rfl⟩, (List.forall_mem_cons.2 ⟨⟨Tryz.func18, by kernel_rfl⟩, (List.forall_mem_cons.2 ⟨⟨Tryz.func19, by kernel_rfl⟩, (List.forall_mem_cons.2 ⟨⟨Tryz.func20, by kernel_rfl⟩, (List.forall_mem_cons.2 ⟨⟨Tryz.func21, by kernel_rfl⟩, (List.forall_mem_cons.2 ⟨⟨Tryz.func22, by kernel_rfl⟩, (List.forall_mem_cons.2 ⟨⟨Tryz.func23, by kernel_rfl⟩, (List.forall_mem_cons.2 ⟨⟨Tryz.func24, by kernel_rfl⟩, (List.forall_mem_cons.2 ⟨⟨Tryz.func25, by kernel_rfl⟩, (List.forall_mem_cons.2 ⟨⟨Tryz.func26, by kernel_rfl⟩, (List.forall_mem_cons.2 ⟨⟨Tryz.func27, by kernel_rfl⟩, (List.forall_mem_cons.2 ⟨⟨Tryz.func28, by kernel_rfl⟩, (List.forall_mem_cons.2 ⟨⟨Tryz.func29, by kernel_rfl⟩, (List.forall_mem_cons.2 ⟨⟨Tryz.func30, by kernel_rfl⟩, (List.forall_mem_cons.2 ⟨⟨Tryz.func31, by kernel_rfl⟩, (List.forall_mem_cons.2 ⟨⟨Tryz.func32, by kernel_rfl⟩, (List.forall_mem_cons.2 ⟨⟨Tryz.func40, by kernel_rfl⟩, (List.forall_mem_cons.2 ⟨⟨Tryz.func41, by kernel_rfl⟩, (List.forall_mem_cons.2 ⟨⟨Tryz.func42, by kernel_rfl⟩, (List.forall_mem_cons.2 ⟨⟨Tryz.func43, by kernel_rfl⟩, (List.forall_mem_cons.2 ⟨⟨Tryz.func44, by kernel_rfl⟩, (List.forall_mem_cons.2 ⟨⟨Tryz.func45, by kernel_rfl⟩, (List.forall_mem_cons.2 ⟨⟨Tryz.func46, by kernel_rfl⟩, (List.forall_mem_cons.2 ⟨⟨Tryz.func47, by kernel_rfl⟩, (List.forall_mem_cons.2 ⟨⟨Tryz.func48, by kernel_rfl⟩, (List.forall_mem_cons.2 ⟨⟨Tryz.func49, by kernel_rfl⟩, (List.forall_mem_cons.2 ⟨⟨Tryz.func50, by kernel_rfl⟩, (List.forall_mem_cons.2 ⟨⟨Tryz.func51, by kernel_rfl⟩, (List.forall_mem_cons.2 ⟨⟨Tryz.func52, by kernel_rfl⟩, (List.forall_mem_cons.2 ⟨⟨Tryz.func62, by kernel_rfl⟩, (List.forall_mem_cons.2 ⟨⟨Tryz.func63, by kernel_rfl⟩, (List.forall_mem_cons.2 ⟨⟨Tryz.func64, by kernel_rfl⟩, (List.forall_mem_cons.2 ⟨⟨Tryz.func65, by kernel_rfl⟩, (List.forall_mem_cons.2 ⟨⟨Tryz.func73, by kernel_rfl⟩, (List.forall_mem_cons.2 ⟨⟨Tryz.func79, by kernel_rfl⟩, (List.forall_mem_cons.2 ⟨⟨Tryz.func80, by kernel_rfl⟩, (List.forall_mem_cons.2 ⟨⟨Tryz.func113, by kernel_rfl⟩, (fun e he => by cases he)⟩)⟩)⟩)⟩)⟩)⟩)⟩)⟩)⟩)⟩)⟩)⟩)⟩)⟩)⟩)⟩)⟩)⟩)⟩)⟩)⟩)⟩)⟩)⟩)⟩)⟩)⟩)⟩)⟩)⟩)⟩)⟩)⟩)⟩)⟩)⟩)⟩)⟩)⟩)⟩)⟩)⟩)⟩)⟩)⟩)⟩)⟩)⟩)⟩)⟩)⟩)

theorem meth101 (v : Value) (w : World) : (method (Tryz.prog.types.size + Made.depth) 101 v "deltaworks/strat.clear").run Tryz.prog w = .ok (113, v) w := by
  have hk : ∃ k, Tryz.prog.types.size + Made.depth = k + 1 := ⟨262 + Made.depth, by rw [Tryz.types_size]; omega⟩
  obtain ⟨k, hk⟩ := hk
  rw [hk, method]
  have hf : Tryz.t101.methods.find? (fun m => m.name == "deltaworks/strat.clear") = some { name := "deltaworks/strat.clear", sig := 74, path := #[], func := some (113, false) } := by kernel_rfl
  simp [Tryz.typeInfo101, hf, follow, receiverAt, Tryz.runUnderlying101, Place.get]

theorem tabOK : TabOK Tryz.prog T where
  ty := fun t i h => ty_all (t, i) (look_mem h)
  fn := fun f fn h => fn_all (f, fn) (look_mem h)
  key := fun t h => by
    have : t = 69 := Nat.eq_of_beq_eq_true h
    subst this
    exact ⟨_, _, Tryz.underlying69, by decide, by decide, rfl, rfl, Tryz.underlying3, Tryz.underlying3, Tryz.stoodInHeld69⟩
  meth := fun t m f h v w => by
    simp only [T] at h
    split at h
    · rename_i hb
      simp only [Bool.and_eq_true, beq_iff_eq] at hb
      obtain ⟨h1, h2⟩ := hb
      have h1 := Nat.eq_of_beq_eq_true h1
      subst h1; subst h2
      cases h
      exact meth101 v w
    · cases h
theorem mixed : Tryz.prog.follows .mixedOrders = true := by kernel_rfl
end Go.Proofs.YtbbepcgjinfljaaGreatDoor
