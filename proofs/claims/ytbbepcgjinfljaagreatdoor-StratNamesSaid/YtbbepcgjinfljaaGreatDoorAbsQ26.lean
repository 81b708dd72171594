/- Levels: its call, put together out of the four runs of its inner loop. -/
import Derived.Test.YtbbepcgjinfljaaGreatDoorAbsQ261
import Derived.Test.YtbbepcgjinfljaaGreatDoorAbsQ262
import Derived.Test.YtbbepcgjinfljaaGreatDoorAbsQ263
import Derived.Test.YtbbepcgjinfljaaGreatDoorAbsQ264
namespace Go.Proofs.YtbbepcgjinfljaaGreatDoor
open Go.Abs
set_option maxRecDepth 20000 in
noncomputable def k26 : Known where
  f := 40
  args := [n 5, .slice 112 0 4 4]
  h := [(112, .cells [n 1, .nilslice, .slice 92 0 2 3, .nilslice, n 2, .nilslice, .slice 97 0 1 3, .nilslice, n 3, .nilslice, .slice 104 0 2 3, .nilslice, n 4, .nilslice, .slice 111 0 2 3, .nilslice]),
    (111, .cells [n 4, bf, .nilslice, n 3, bf, .nilslice]),
    (104, .cells [n 0, bf, .nilslice, n 2, bt, .nilslice]),
    (97, .cells [n 1, bf, .nilslice]),
    (92, .cells [n 2, bf, .nilslice, n 0, bf, .nilslice]),
    (85, .cells [.slice 84 0 1 1, .slice 83 0 2 1, .slice 82 0 1 1, .slice 81 0 1 1]),
    (81, .cells [n 4]),
    (82, .cells [n 3]),
    (83, .cells [n 1, n 2]),
    (84, .cells [n 0]),
    (80, .cells [n 1, .nilslice, .slice 60 0 2 3, .nilslice, n 2, .nilslice, .slice 65 0 1 3, .nilslice, n 3, .nilslice, .slice 72 0 2 3, .nilslice, n 4, .nilslice, .slice 79 0 2 3, .nilslice]),
    (79, .cells [n 4, bf, .nilslice, n 3, bf, .nilslice]),
    (72, .cells [n 0, bf, .nilslice, n 2, bt, .nilslice]),
    (65, .cells [n 1, bf, .nilslice]),
    (60, .cells [n 2, bf, .nilslice, n 0, bf, .nilslice]),
    (53, .cells [n 3, n 4]),
    (52, .cells [n 0]),
    (51, .cells [.nilslice, .nilslice, .nilslice, .nilslice]),
    (50, .cells [n 0, .nilslice, .nilslice, .nilslice]),
    (47, .cells [n 2, .slice 46 0 2 2]),
    (46, .cells [n 0, .nilslice, n 0, .nilslice]),
    (44, .cells [n 2]),
    (43, .cells ((n 0) :: (.nilslice) :: (.nilslice) :: (.nilslice) :: (n 0) :: (.nilslice) :: (.nilslice) :: (.nilslice) :: (n 0) :: (.nilslice) :: (.nilslice) :: (.nilslice) :: (n 0) :: (.nilslice) :: (.nilslice) :: (.nilslice) :: (n 0) :: (.nilslice) :: (.nilslice) :: (.nilslice) :: (n 0) :: (.nilslice) :: (.nilslice) :: (.nilslice) :: (n 0) :: (.nilslice) :: (.nilslice) :: (.nilslice) :: (n 0) :: (.nilslice) :: (.nilslice) :: (.nilslice) :: (n 0) :: (.nilslice) :: (.nilslice) :: (.nilslice) :: (n 0) :: (.nilslice) :: (.nilslice) :: (.nilslice) :: (n 0) :: (.nilslice) :: (.nilslice) :: (.nilslice) :: (n 0) :: (.nilslice) :: (.nilslice) :: (.nilslice) :: (n 0) :: (.nilslice) :: (.nilslice) :: (.nilslice) :: (n 0) :: (.nilslice) :: (.nilslice) :: (.nilslice) :: (n 0) :: (.nilslice) :: (.nilslice) :: (.nilslice) :: (n 0) :: (.nilslice) :: (.nilslice) :: (.nilslice) :: (n 0) :: (.nilslice) :: (.nilslice) :: (.nilslice) :: (n 0) :: (.nilslice) :: (.nilslice) :: (.nilslice) :: (n 0) :: (.nilslice) :: (.nilslice) :: (.nilslice) :: (n 0) :: (.nilslice) :: (.nilslice) :: (.nilslice) :: (n 0) :: (.nilslice) :: (.nilslice) :: (.nilslice) :: (n 0) :: (.nilslice) :: (.nilslice) :: (.nilslice) :: (n 0) :: (.nilslice) :: (.nilslice) :: (.nilslice) :: (n 0) :: (.nilslice) :: (.nilslice) :: (.nilslice) :: (n 0) :: (.nilslice) :: (.nilslice) :: (.nilslice) :: (n 0) :: (.nilslice) :: (.nilslice) :: (.nilslice) :: (n 0) :: (.nilslice) :: (.nilslice) :: (.nilslice) :: (n 0) :: (.nilslice) :: (.nilslice) :: (.nilslice) :: (n 0) :: (.nilslice) :: (.nilslice) :: (.nilslice) :: (n 0) :: (.nilslice) :: (.nilslice) :: (.nilslice) :: (n 0) :: (.nilslice) :: (.nilslice) :: (.nilslice) :: (n 0) :: (.nilslice) :: (.nilslice) :: (.nilslice) :: (n 0) :: (.nilslice) :: (.nilslice) :: (.nilslice) :: (n 0) :: (.nilslice) :: (.nilslice) :: (.nilslice) :: (n 0) :: (.nilslice) :: (.nilslice) :: (.nilslice) :: (n 0) :: (.nilslice) :: (.nilslice) :: (.nilslice) :: (n 0) :: (.nilslice) :: (.nilslice) :: (.nilslice) :: (n 0) :: (.nilslice) :: (.nilslice) :: (.nilslice) :: (n 0) :: (.nilslice) :: (.nilslice) :: (.nilslice) :: (n 0) :: (.nilslice) :: (.nilslice) :: (.nilslice) :: (n 0) :: (.nilslice) :: (.nilslice) :: (.nilslice) :: (n 0) :: (.nilslice) :: (.nilslice) :: (.nilslice) :: (n 0) :: (.nilslice) :: (.nilslice) :: (.nilslice) :: (n 0) :: (.nilslice) :: (.nilslice) :: (.nilslice) :: (n 0) :: (.nilslice) :: (.nilslice) :: (.nilslice) :: (n 0) :: (.nilslice) :: (.nilslice) :: (.nilslice) :: (n 0) :: (.nilslice) :: (.nilslice) :: (.nilslice) :: (n 0) :: (.nilslice) :: (.nilslice) :: (.nilslice) :: (n 0) :: (.nilslice) :: (.nilslice) :: (.nilslice) :: (n 0) :: (.nilslice) :: (.nilslice) :: (.nilslice) :: (n 0) :: (.nilslice) :: (.nilslice) :: (.nilslice) :: (n 0) :: (.nilslice) :: (.nilslice) :: (.nilslice) :: (n 0) :: (.nilslice) :: (.nilslice) :: (.nilslice) :: (n 0) :: (.nilslice) :: (.nilslice) :: (.nilslice) :: (n 0) :: (.nilslice) :: (.nilslice) :: (.nilslice) :: (n 0) :: (.nilslice) :: (.nilslice) :: (.nilslice) :: (n 0) :: (.nilslice) :: (.nilslice) :: (.nilslice) :: (n 0) :: (.nilslice) :: (.nilslice) :: (.nilslice) :: (n 0) :: (.nilslice) :: (.nilslice) :: (.nilslice) :: (n 0) :: (.nilslice) :: (.nilslice) :: (.nilslice) :: (n 0) :: (.nilslice) :: (.nilslice) :: (.nilslice) :: [])),
    (42, .cells [n 2, .nilslice, .nilslice, .nilslice]),
    (39, .cells [n 3, n 4]),
    (38, .cells [n 4, n 3]),
    (37, .cells [n 1, .nilslice, .slice 17 0 2 3, .nilslice, n 2, .nilslice, .slice 22 0 1 3, .nilslice, n 3, .nilslice, .slice 29 0 2 3, .nilslice, n 4, .nilslice, .slice 36 0 2 3, .nilslice]),
    (36, .cells [n 4, bf, .nilslice, n 3, bf, .nilslice]),
    (29, .cells [n 0, bf, .nilslice, n 2, bt, .nilslice]),
    (22, .cells [n 1, bf, .nilslice]),
    (17, .cells [n 2, bf, .nilslice, n 0, bf, .nilslice]),
    (10, .cells [n 0]),
    (9, .cells [n 0, .nilslice, .slice 8 0 1 3, .nilslice]),
    (8, .cells [n 0, bt, .nilslice]),
    (4, .cells [n 0, .nilslice, .slice 3 0 1 3, .nilslice]),
    (3, .cells [n 0, bt, .nilslice])]
  nx := 113
  outs := [(.ret (.tuple [.slice 113 0 5 1, n 0]),
    [(113, .cells [n 0, n 0, n 0, n 1, n 1]),
    (112, .cells [n 1, .nilslice, .slice 92 0 2 3, .nilslice, n 2, .nilslice, .slice 97 0 1 3, .nilslice, n 3, .nilslice, .slice 104 0 2 3, .nilslice, n 4, .nilslice, .slice 111 0 2 3, .nilslice]),
    (111, .cells [n 4, bf, .nilslice, n 3, bf, .nilslice]),
    (104, .cells [n 0, bf, .nilslice, n 2, bt, .nilslice]),
    (97, .cells [n 1, bf, .nilslice]),
    (92, .cells [n 2, bf, .nilslice, n 0, bf, .nilslice]),
    (85, .cells [.slice 84 0 1 1, .slice 83 0 2 1, .slice 82 0 1 1, .slice 81 0 1 1]),
    (81, .cells [n 4]),
    (82, .cells [n 3]),
    (83, .cells [n 1, n 2]),
    (84, .cells [n 0]),
    (80, .cells [n 1, .nilslice, .slice 60 0 2 3, .nilslice, n 2, .nilslice, .slice 65 0 1 3, .nilslice, n 3, .nilslice, .slice 72 0 2 3, .nilslice, n 4, .nilslice, .slice 79 0 2 3, .nilslice]),
    (79, .cells [n 4, bf, .nilslice, n 3, bf, .nilslice]),
    (72, .cells [n 0, bf, .nilslice, n 2, bt, .nilslice]),
    (65, .cells [n 1, bf, .nilslice]),
    (60, .cells [n 2, bf, .nilslice, n 0, bf, .nilslice]),
    (53, .cells [n 3, n 4]),
    (52, .cells [n 0]),
    (51, .cells [.nilslice, .nilslice, .nilslice, .nilslice]),
    (50, .cells [n 0, .nilslice, .nilslice, .nilslice]),
    (47, .cells [n 2, .slice 46 0 2 2]),
    (46, .cells [n 0, .nilslice, n 0, .nilslice]),
    (44, .cells [n 2]),
    (43, .cells ((n 0) :: (.nilslice) :: (.nilslice) :: (.nilslice) :: (n 0) :: (.nilslice) :: (.nilslice) :: (.nilslice) :: (n 0) :: (.nilslice) :: (.nilslice) :: (.nilslice) :: (n 0) :: (.nilslice) :: (.nilslice) :: (.nilslice) :: (n 0) :: (.nilslice) :: (.nilslice) :: (.nilslice) :: (n 0) :: (.nilslice) :: (.nilslice) :: (.nilslice) :: (n 0) :: (.nilslice) :: (.nilslice) :: (.nilslice) :: (n 0) :: (.nilslice) :: (.nilslice) :: (.nilslice) :: (n 0) :: (.nilslice) :: (.nilslice) :: (.nilslice) :: (n 0) :: (.nilslice) :: (.nilslice) :: (.nilslice) :: (n 0) :: (.nilslice) :: (.nilslice) :: (.nilslice) :: (n 0) :: (.nilslice) :: (.nilslice) :: (.nilslice) :: (n 0) :: (.nilslice) :: (.nilslice) :: (.nilslice) :: (n 0) :: (.nilslice) :: (.nilslice) :: (.nilslice) :: (n 0) :: (.nilslice) :: (.nilslice) :: (.nilslice) :: (n 0) :: (.nilslice) :: (.nilslice) :: (.nilslice) :: (n 0) :: (.nilslice) :: (.nilslice) :: (.nilslice) :: (n 0) :: (.nilslice) :: (.nilslice) :: (.nilslice) :: (n 0) :: (.nilslice) :: (.nilslice) :: (.nilslice) :: (n 0) :: (.nilslice) :: (.nilslice) :: (.nilslice) :: (n 0) :: (.nilslice) :: (.nilslice) :: (.nilslice) :: (n 0) :: (.nilslice) :: (.nilslice) :: (.nilslice) :: (n 0) :: (.nilslice) :: (.nilslice) :: (.nilslice) :: (n 0) :: (.nilslice) :: (.nilslice) :: (.nilslice) :: (n 0) :: (.nilslice) :: (.nilslice) :: (.nilslice) :: (n 0) :: (.nilslice) :: (.nilslice) :: (.nilslice) :: (n 0) :: (.nilslice) :: (.nilslice) :: (.nilslice) :: (n 0) :: (.nilslice) :: (.nilslice) :: (.nilslice) :: (n 0) :: (.nilslice) :: (.nilslice) :: (.nilslice) :: (n 0) :: (.nilslice) :: (.nilslice) :: (.nilslice) :: (n 0) :: (.nilslice) :: (.nilslice) :: (.nilslice) :: (n 0) :: (.nilslice) :: (.nilslice) :: (.nilslice) :: (n 0) :: (.nilslice) :: (.nilslice) :: (.nilslice) :: (n 0) :: (.nilslice) :: (.nilslice) :: (.nilslice) :: (n 0) :: (.nilslice) :: (.nilslice) :: (.nilslice) :: (n 0) :: (.nilslice) :: (.nilslice) :: (.nilslice) :: (n 0) :: (.nilslice) :: (.nilslice) :: (.nilslice) :: (n 0) :: (.nilslice) :: (.nilslice) :: (.nilslice) :: (n 0) :: (.nilslice) :: (.nilslice) :: (.nilslice) :: (n 0) :: (.nilslice) :: (.nilslice) :: (.nilslice) :: (n 0) :: (.nilslice) :: (.nilslice) :: (.nilslice) :: (n 0) :: (.nilslice) :: (.nilslice) :: (.nilslice) :: (n 0) :: (.nilslice) :: (.nilslice) :: (.nilslice) :: (n 0) :: (.nilslice) :: (.nilslice) :: (.nilslice) :: (n 0) :: (.nilslice) :: (.nilslice) :: (.nilslice) :: (n 0) :: (.nilslice) :: (.nilslice) :: (.nilslice) :: (n 0) :: (.nilslice) :: (.nilslice) :: (.nilslice) :: (n 0) :: (.nilslice) :: (.nilslice) :: (.nilslice) :: (n 0) :: (.nilslice) :: (.nilslice) :: (.nilslice) :: (n 0) :: (.nilslice) :: (.nilslice) :: (.nilslice) :: (n 0) :: (.nilslice) :: (.nilslice) :: (.nilslice) :: (n 0) :: (.nilslice) :: (.nilslice) :: (.nilslice) :: (n 0) :: (.nilslice) :: (.nilslice) :: (.nilslice) :: (n 0) :: (.nilslice) :: (.nilslice) :: (.nilslice) :: (n 0) :: (.nilslice) :: (.nilslice) :: (.nilslice) :: (n 0) :: (.nilslice) :: (.nilslice) :: (.nilslice) :: (n 0) :: (.nilslice) :: (.nilslice) :: (.nilslice) :: (n 0) :: (.nilslice) :: (.nilslice) :: (.nilslice) :: (n 0) :: (.nilslice) :: (.nilslice) :: (.nilslice) :: (n 0) :: (.nilslice) :: (.nilslice) :: (.nilslice) :: (n 0) :: (.nilslice) :: (.nilslice) :: (.nilslice) :: [])),
    (42, .cells [n 2, .nilslice, .nilslice, .nilslice]),
    (39, .cells [n 3, n 4]),
    (38, .cells [n 4, n 3]),
    (37, .cells [n 1, .nilslice, .slice 17 0 2 3, .nilslice, n 2, .nilslice, .slice 22 0 1 3, .nilslice, n 3, .nilslice, .slice 29 0 2 3, .nilslice, n 4, .nilslice, .slice 36 0 2 3, .nilslice]),
    (36, .cells [n 4, bf, .nilslice, n 3, bf, .nilslice]),
    (29, .cells [n 0, bf, .nilslice, n 2, bt, .nilslice]),
    (22, .cells [n 1, bf, .nilslice]),
    (17, .cells [n 2, bf, .nilslice, n 0, bf, .nilslice]),
    (10, .cells [n 0]),
    (9, .cells [n 0, .nilslice, .slice 8 0 1 3, .nilslice]),
    (8, .cells [n 0, bt, .nilslice]),
    (4, .cells [n 0, .nilslice, .slice 3 0 1 3, .nilslice]),
    (3, .cells [n 0, bt, .nilslice])], 114)]

noncomputable def findC (l : List (ASt × List OutC)) (st : ASt) : Option (List OutC) := lrec none (fun e _ r => match beqSt e.1 st with
  | true => some e.2
  | false => r) l
theorem findC_cons (e : ASt × List OutC) (l : List (ASt × List OutC)) (st : ASt) : findC (e :: l) st = match beqSt e.1 st with
  | true => some e.2
  | false => findC l st := rfl
theorem findC_ok {g : ASt → Option (List OutC)} : ∀ {l : List (ASt × List OutC)}, (∀ e ∈ l, g e.1 = some e.2) → ∀ {st : ASt} {o : List OutC}, findC l st = some o → g st = some o := by
  intro l
  induction l with
  | nil => intro _ st o h; cases h
  | cons e l ih =>
    intro hl st o h
    rw [findC_cons] at h
    split at h
    · rename_i hb
      have := beqSt_ok _ _ hb
      simp only [Option.some.injEq] at h
      rw [← this, ← h]
      exact hl e (by simp)
    · exact ih (fun e he => hl e (by simp [he])) h
noncomputable def tbl40 : List (ASt × List OutC) := [(s261, o261), (s262, o262), (s263, o263), (s264, o264)]
theorem tbl_ok : ∀ e ∈ tbl40, g40 inner40 e.1 = some e.2 :=
  List.forall_mem_cons.2 ⟨r261, List.forall_mem_cons.2 ⟨r262, List.forall_mem_cons.2 ⟨r263, List.forall_mem_cons.2 ⟨r264, fun e he => by cases he⟩⟩⟩⟩

noncomputable def go8 : ASt → Option (List OutC) := fun st => seqA (findC tbl40) (g40 (fstS (sndS seven40)) st)
noncomputable def go7 : ASt → Option (List OutC) := fun st => seqA go8 (g40 (fstS seven40) st)
noncomputable def goTurn : ASt → Option (List OutC) := fun st => blockA 1 (go7 st)
noncomputable def goHead : ASt → Option (List OutC) := fun st => seqA goTurn (g40 (fstS head40) st)
noncomputable def goLoop : ASt → Option (List OutC) := fun st => loopS T ⟨40, false⟩ goHead st
noncomputable def goBlk : ASt → Option (List OutC) := fun st => blockA 0 (goLoop st)
noncomputable def go5 : ASt → Option (List OutC) := fun st => seqA goBlk (g40 (fstS loop40) st)
noncomputable def go6 : ASt → Option (List OutC) := fun st => seqA (g40 (past 6 body40)) (go5 st)
noncomputable def go4 : ASt → Option (List OutC) := fun st => seqA go6 (g40 (fstS (past 4 body40)) st)
noncomputable def go3 : ASt → Option (List OutC) := fun st => seqA go4 (g40 (fstS (past 3 body40)) st)
noncomputable def go2 : ASt → Option (List OutC) := fun st => seqA go3 (g40 (fstS (past 2 body40)) st)
noncomputable def go1 : ASt → Option (List OutC) := fun st => seqA go2 (g40 (fstS (past 1 body40)) st)
noncomputable def go0 : ASt → Option (List OutC) := fun st => seqA go1 (g40 (fstS body40) st)

theorem go0_ok (w0 : World) (b : Frame) (hx : CtxOK ⟨40, false⟩ b) : CodeOK Tryz.prog w0 b go0 body40 := by
  have leaf : ∀ c, CodeOK Tryz.prog w0 b (g40 c) c := fun c => codeA_ok mixed tabOK call40_ok.1 call40_ok.2 hx 380 c
  have h0 : CodeOK Tryz.prog w0 b (findC tbl40) inner40 := fun cs k a β st w outs H h => leaf inner40 cs k a β st w outs H (findC_ok tbl_ok h)
  have h8 : CodeOK Tryz.prog w0 b go8 (.seq (fstS (sndS seven40)) inner40) := seqA_ok (leaf _) h0
  have h7 : CodeOK Tryz.prog w0 b go7 seven40 := by rw [seven_shape]; exact seqA_ok (leaf _) h8
  have hturn : CodeOK Tryz.prog w0 b goTurn turn40 := by rw [turn_shape]; exact blockA_ok h7
  have hhead : CodeOK Tryz.prog w0 b goHead head40 := by rw [head_shape]; exact seqA_ok (leaf _) hturn
  have hblk : CodeOK Tryz.prog w0 b goBlk (.block 0 (.loop head40)) := blockA_ok (loopS_ok hhead)
  have h5 : CodeOK Tryz.prog w0 b go5 loop40 := by rw [loop_shape]; exact seqA_ok (leaf _) hblk
  rw [body_shape]
  exact seqA_ok (leaf _) (seqA_ok (leaf _) (seqA_ok (leaf _) (seqA_ok (leaf _) (seqA_ok (leaf _) (seqA_ok h5 (leaf _))))))

noncomputable def run40 : Option (List OutF) := match go0 { n := Tryz.f40.ntmps, rows := setFrom (rowsOf Tryz.f40.ntmps) k26.args, defers := [], heap := k26.h, nx := k26.nx } with
  | some o => closeF T 40 k26.nx (goL (exitF T call40 Tryz.f40) o)
  | none => none
theorem r26 : run40 = some k26.outs := by kernel_rfl
theorem fn40 : T.fn 40 = some Tryz.f40 := by kernel_rfl
theorem args40 : Nat.ble (lenR k26.args) Tryz.f40.ntmps = true := by kernel_rfl
theorem f26 : Fact Tryz.prog T k26.f k26.args k26.h k26.nx k26.outs := by
  have hr := r26
  unfold run40 at hr
  split at hr
  · rename_i o ho
    exact func_ok tabOK call40_ok.1 fn40 body_is go0_ok args40 ho hr
  · cases hr
end Go.Proofs.YtbbepcgjinfljaaGreatDoor
