/- Calls, and every operation together. -/
import Derived.Test.YtbbepcgjinfljaaGreatDoorAbsM
namespace Go.Abs
open Go.RowKit

section
variable {P : Program} {T : Tab} {w0 : World} {β : Beta} {st : ASt} {tmps : Array Value} {defers : List Deferred} {w : World} {o : Oper}

theorem concL_append (β : Beta) (a b : List AV) : concL β (a ++ b) = concL β a ++ concL β b := by simp [concL_map]

theorem callFunc_ok (hT : TabOK P T) {f : FuncId} {fn : Func} (hf : T.fn f = some fn) (hb : fn.body.isSome = true) (args : Array Value) : (callFunc f args).run P w = .ok (.enter f args) w := by
  obtain ⟨h1, h2⟩ := hT.fn f fn hf
  have hn : fn.body.isNone = false := by cases hfb : fn.body <;> simp_all
  simp only [callFunc, Sem.run_bind, run_program, Result.andThen_ok, h1, h2, hn, Bool.false_eq_true, if_false, Sem.run_pure]

theorem opCallV_ok (hT : TabOK P T) (H : SR w0 β st tmps defers w) {c : Call} (ho : o.op = .call c) {f : Operand} (hc : c.callee = .value f) {args : List AV} (ha : evs st c.args.toList = some args) {steps : List Step}
    (h : opCallV (st.ev f) args st = some steps) : ∃ s ∈ steps, StepOK P T w0 β st tmps w o s := by
  obtain ⟨hl, hv⟩ := evs_ok H ha
  have e1 : c.args.map (evC tmps) = (concL β args).toArray := by apply Array.ext'; simp [hv]
  unfold opCallV at h
  split at h
  · rename_i g first cap hf
    obtain ⟨hfl, hfe⟩ := ev_ok H hf
    simp only [Option.some.injEq] at h; subst h
    rw [appR_eq, appR_eq]
    refine ⟨_, List.mem_singleton.2 rfl, rfl, ?_, ?_⟩
    · intro v hv k hk
      rcases List.mem_append.1 hv with hv | hv
      · exact hfl k (by simp only [AV.ids, List.mem_append]; exact .inl (idsL_mem.2 ⟨v, hv, hk⟩))
      · rcases List.mem_append.1 hv with hv | hv
        · exact hl v hv k hk
        · exact hfl k (by simp only [AV.ids, List.mem_append]; exact .inr (idsL_mem.2 ⟨v, hv, hk⟩))
    · intro fn hfn hb
      simp only [execOp, ho, resolve, hc, hfe, conc, Deferred.ofValue, e1, Sem.run_bind, Sem.run_pure, Result.andThen_ok, invoke]
      rw [callFunc_ok hT hfn hb]
      congr 2
      apply Array.ext'
      simp [concL_append, List.append_assoc]
  · rename_i l hf
    obtain ⟨hfl, hfe⟩ := ev_ok H hf
    simp only [Option.some.injEq] at h; subst h
    refine ⟨_, List.mem_singleton.2 rfl, rfl, hl, ?_⟩
    simp only [execOp, ho, resolve, hc, hfe, conc, Deferred.ofValue, e1, Sem.run_bind, Sem.run_pure, Result.andThen_ok, invoke]
    simp
  · cases h

theorem opInvoke_ok (hT : TabOK P T) (H : SR w0 β st tmps defers w) {c : Call} (ho : o.op = .call c) {r : Operand} {m : String} (hc : c.callee = .invoke r m) {args : List AV} (ha : evs st c.args.toList = some args)
    {steps : List Step} (h : opInvoke T (st.ev r) m args st = some steps) : ∃ s ∈ steps, StepOK P T w0 β st tmps w o s := by
  obtain ⟨hl, hv⟩ := evs_ok H ha
  have e1 : c.args.map (evC tmps) = (concL β args).toArray := by apply Array.ext'; simp [hv]
  unfold opInvoke at h
  split at h
  · rename_i t v hr
    split at h
    · rename_i f hm
      obtain ⟨hrl, hre⟩ := ev_ok H hr
      simp only [Option.some.injEq] at h; subst h
      refine ⟨_, List.mem_singleton.2 rfl, rfl, ?_, ?_⟩
      · intro u hu k hk
        rcases List.mem_cons.1 hu with rfl | hu
        · exact hrl k (by simpa [AV.ids] using hk)
        · exact hl u hu k hk
      · intro fn hfn hb
        have hmm := hT.meth t m f hm
        have e2 : (#[conc β (.iface t v)] ++ (concL β args).toArray).extract 1 (#[conc β (.iface t v)] ++ (concL β args).toArray).size = (concL β args).toArray := by
          apply Array.ext'; simp
        have e3 : (#[conc β (.iface t v)] ++ (concL β args).toArray)[0]? = some (conc β (.iface t v)) := by simp
        simp only [execOp, ho, resolve, hc, hre, e1, Sem.run_bind, Sem.run_pure, Result.andThen_ok, invoke, e2, e3]
        simp only [conc, callMethod, Sem.run_bind, run_program, Result.andThen_ok, hmm]
        rw [callFunc_ok hT hfn hb]
        congr 2
        apply Array.ext'
        simp [concL]
    · cases h
  · cases h

theorem opCall_ok (hT : TabOK P T) (H : SR w0 β st tmps defers w) {c : Call} (ho : o.op = .call c) {steps : List Step}
    (h : opCall T c (evs st c.args.toList) st = some steps) : ∃ s ∈ steps, StepOK P T w0 β st tmps w o s := by
  unfold opCall at h
  split at h
  · rename_i args ha
    split at h
    · rename_i b hc
      obtain ⟨hl, hv⟩ := evs_ok H ha
      exact callBuiltin_ok hT H ho hc hl hv h
    · rename_i f hc
      exact opCallV_ok hT H ho hc ha h
    · rename_i r m hc
      exact opInvoke_ok hT H ho hc ha h
  · cases h

/-- EVERY OPERATION. -/
theorem opA_ok (hT : TabOK P T) (H : SR w0 β st tmps defers w) {steps : List Step} (h : opA T o.op st = some steps) : ∃ s ∈ steps, StepOK P T w0 β st tmps w o s := by
  unfold opA at h
  split at h
  · rename_i x ho
    simp only [Option.some.injEq] at h; subst h
    exact ⟨_, List.mem_singleton.2 rfl, move_ok H (.inl ho)⟩
  · rename_i x ho
    simp only [Option.some.injEq] at h; subst h
    exact ⟨_, List.mem_singleton.2 rfl, move_ok H (.inr ho)⟩
  · rename_i c a b ho; exact pick_ok H ho h
  · rename_i e ho; exact opAlloc_ok hT H ho h
  · rename_i e x ho; exact opBox_ok hT H ho h
  · rename_i t ps ho; exact opBuild_ok hT H ho h
  · rename_i t n ps ho; exact opBuildSlice_ok hT H ho h
  · rename_i t a ho; exact opLoad_ok hT H ho h
  · rename_i t a x ho; exact opStore_ok hT H ho h
  · rename_i x ho; exact opNil_ok H ho h
  · rename_i op t x y z ho; exact opBin_ok hT H ⟨z, ho⟩ h
  · rename_i op t x ho; exact opNot_ok H ho h
  · rename_i s d x ho; exact opConv_ok hT H ho h
  · rename_i t x ho; exact opIface_ok hT H ho h
  · rename_i f a b ho; exact opFunc_ok H ho h
  · rename_i t ho; exact opMakeMap_ok H ho h
  · rename_i t l c ho; exact opMakeSlice_ok hT H ho h
  · rename_i t x lo hi mx ho; exact opSlice_ok hT H ho h
  · rename_i t x f ho; exact opField_ok hT H ho h
  · rename_i t x i ho; exact opIndexAddr_ok hT H ho h
  · rename_i t x i ho; exact opIndex_ok hT H ho h
  · rename_i t x k ok ho; exact opLookup_ok hT H ho h
  · rename_i t m k x ho; exact opMapUpdate_ok hT H ho h
  · rename_i t x ho; exact opRange_ok hT H ho h
  · rename_i x ho; exact opNext_ok hT H ho h
  · rename_i x ho; exact opEntry_ok hT H ho h
  · rename_i x xt t ho; exact opAssert_ok hT H ho h
  · rename_i t i ho; exact opExtract_ok H ho h
  · rename_i x ho; exact opPanic_ok H ho h
  · rename_i c ho; exact opDefer_ok H ho h
  · rename_i c ho; exact opCall_ok hT H ho h
  · cases h
end
end Go.Abs
