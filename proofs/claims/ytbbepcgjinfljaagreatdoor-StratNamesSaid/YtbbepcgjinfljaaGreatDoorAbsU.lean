/- Pure operations: what they see. -/
import Derived.Test.YtbbepcgjinfljaaGreatDoorAbsS
namespace Go.Abs
open Go.RowKit

section
variable {T : Tab} {call yield : CallT} {ops : List Oper}

theorem ev_tmp {st st' : ASt} {x : Operand} (h : ∀ t ∈ tmpOf x, st'.get t = st.get t) : st'.ev x = st.ev x := by
  cases x with
  | tmp t => exact h t (by simp [tmpOf])
  | const v => rfl
  | global g => rfl
  | func f => rfl

theorem stillS_val (v : AV) (st : ASt) : stillS call (val v st) = some (some v) := rfl

/-- A pure operation sees the slots that it reads, and memory if it is not bare. -/
theorem pure_congr {o : Op} (hp : pureOp o = true) {st st' : ASt} (he : ∀ x ∈ readsOf o, st'.ev x = st.ev x) (hh : bareOp o = true ∨ st'.heap = st.heap) :
    stillS call (opA T o st') = stillS call (opA T o st) := by
  cases o <;> first
    | (simp [pureOp] at hp; done)
    | skip
  case move x => have h1 := he x (by simp [readsOf]); simp only [opA, stillS, h1]
  case assign x => have h1 := he x (by simp [readsOf]); simp only [opA, stillS, h1]
  case pick c x y =>
    have h1 := he c (by simp [readsOf]); have h2 := he x (by simp [readsOf]); have h3 := he y (by simp [readsOf])
    simp only [opA, opPick, h1, h2, h3]
    repeat' split
    all_goals rfl
  case load t x =>
    have h1 := he x (by simp [readsOf])
    have h2 : st'.heap = st.heap := hh.resolve_left (by simp [bareOp])
    simp only [opA, opLoad, h1, h2]
    repeat' split
    all_goals rfl
  case nilCheck x =>
    have h1 := he x (by simp [readsOf])
    simp only [opA, opNil, h1]
    repeat' split
    all_goals rfl
  case binOp op t x y z =>
    have h1 := he x (by simp [readsOf]); have h2 := he y (by simp [readsOf])
    simp only [opA, opBin, h1, h2]
    repeat' split
    all_goals rfl
  case unOp op t x =>
    have h1 := he x (by simp [readsOf])
    simp only [opA, opUn, opNot, h1]
    repeat' split
    all_goals rfl
  case fieldAddr t x f =>
    have h1 := he x (by simp [readsOf])
    simp only [opA, opField, h1]
    repeat' split
    all_goals rfl
  case indexAddr t x i =>
    have h1 := he x (by simp [readsOf]); have h2 := he i (by simp [readsOf])
    simp only [opA, opIndexAddr, h1, h2]
    repeat' split
    all_goals rfl
  case index t x i =>
    have h1 := he x (by simp [readsOf]); have h2 := he i (by simp [readsOf])
    simp only [opA, opIndex, aggV, h1, h2]
    repeat' split
    all_goals rfl
  case lookup t x i ok =>
    have h1 := he x (by simp [readsOf]); have h2 := he i (by simp [readsOf])
    have h3 : st'.heap = st.heap := hh.resolve_left (by simp [bareOp])
    simp only [opA, opLookup, found, h1, h2, h3]
    repeat' split
    all_goals rfl
  case extract x i =>
    have h1 := he x (by simp [readsOf])
    simp only [opA, opExtract, h1]
    repeat' split
    all_goals rfl
  case slice t x lo hi mx =>
    have h1 := he x (by simp [readsOf])
    have h3 : st'.heap = st.heap := hh.resolve_left (by simp [bareOp])
    have h4 : ∀ l, lo = some l → st'.ev l = st.ev l := fun l hl => he l (by simp [readsOf, hl])
    have h5 : ∀ l, hi = some l → st'.ev l = st.ev l := fun l hl => he l (by simp [readsOf, hl])
    cases mx with
    | some m => simp only [opA, opSlice, stillS]
    | none =>
      cases lo with
      | none =>
        cases hi with
        | none => simp only [opA, opSlice, stillS]
        | some l =>
          simp only [opA, opSlice, opSliceHi, h1, h3, h5 l rfl]
          repeat' split
          all_goals rfl
      | some l =>
        cases hi with
        | some m => simp only [opA, opSlice, stillS]
        | none =>
          simp only [opA, opSlice, opSliceLo, h1, h3, h4 l rfl]
          repeat' split
          all_goals rfl
  case call c =>
    simp only [pureOp, stillCall] at hp
    split at hp
    · rename_i f hcal
      split at hp
      · rename_i hargs
        have h1 : evs st c.args.toList = some [] := by rw [hargs]; rfl
        have h2 : evs st' c.args.toList = some [] := by rw [hargs]; rfl
        simp only [opA, opCall, h1, h2, hcal, opCallV, ASt.ev, stillS]
        rfl
      · cases hp
    · cases hp
end
end Go.Abs
