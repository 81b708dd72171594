/- Regions that draw their order: pure operations, and any order of them on the machine. -/
import Derived.Test.YtbbepcgjinfljaaGreatDoorAbsQ
namespace Go.Abs
open Go.RowKit

section
variable {P : Program} {T : Tab} {call yield : CallT} {w0 : World} {b : Frame} {cs : List Frame} {k : List Item} {ops : Array Oper}

theorem val_one {v : AV} {st : ASt} {steps : List Step} (h : val v st = some steps) : ∀ s ∈ steps, (∃ v, s = .val v st) ∨ ∃ f, s = .enter f [] st := by
  simp only [val, Option.some.injEq] at h; subst h
  intro s hs; simp only [List.mem_singleton] at hs; subst hs; exact .inl ⟨_, rfl⟩

/-- A pure operation leaves the state as it is. -/
theorem pure_st {o : Op} (hp : pureOp o = true) {st : ASt} {steps : List Step} (h : opA T o st = some steps) : ∀ s ∈ steps, (∃ v, s = .val v st) ∨ ∃ f, s = .enter f [] st := by
  cases o <;> first
    | (simp [pureOp] at hp; done)
    | skip
  case move x => simp only [opA, Option.some.injEq] at h; subst h; intro s hs; simp only [List.mem_singleton] at hs; subst hs; exact .inl ⟨_, rfl⟩
  case assign x => simp only [opA, Option.some.injEq] at h; subst h; intro s hs; simp only [List.mem_singleton] at hs; subst hs; exact .inl ⟨_, rfl⟩
  case pick c x y =>
    simp only [opA, opPick] at h
    split at h
    · simp only [Option.some.injEq] at h; subst h; intro s hs; simp only [List.mem_singleton] at hs; subst hs; exact .inl ⟨_, rfl⟩
    · cases h
  case load t x =>
    simp only [opA, opLoad] at h
    repeat' (split at h)
    all_goals first
      | exact val_one h
      | cases h
  case nilCheck x =>
    simp only [opA, opNil] at h
    repeat' (split at h)
    all_goals first
      | exact val_one h
      | cases h
  case binOp op t x y z =>
    simp only [opA, opBin] at h
    repeat' (split at h)
    all_goals first
      | exact val_one h
      | cases h
  case unOp op t x =>
    simp only [opA, opUn, opNot] at h
    repeat' (split at h)
    all_goals first
      | exact val_one h
      | cases h
  case fieldAddr t x f =>
    simp only [opA, opField] at h
    repeat' (split at h)
    all_goals first
      | exact val_one h
      | cases h
  case indexAddr t x i =>
    simp only [opA, opIndexAddr] at h
    repeat' (split at h)
    all_goals first
      | exact val_one h
      | cases h
  case index t x i =>
    simp only [opA, opIndex, aggV] at h
    repeat' (split at h)
    all_goals first
      | exact val_one h
      | cases h
  case lookup t x i ok =>
    simp only [opA, opLookup, found] at h
    repeat' (split at h)
    all_goals first
      | exact val_one h
      | cases h
  case extract x i =>
    simp only [opA, opExtract] at h
    repeat' (split at h)
    all_goals first
      | exact val_one h
      | cases h
  case slice t x lo hi mx =>
    simp only [opA, opSlice, opSliceLo, opSliceHi] at h
    repeat' (split at h)
    all_goals first
      | exact val_one h
      | cases h
  case call c =>
    simp only [pureOp, stillCall] at hp
    split at hp
    · rename_i f hcal
      split at hp
      · rename_i hargs
        have he : evs st c.args.toList = some [] := by rw [hargs]; rfl
        simp only [opA, opCall, he, hcal, opCallV, ASt.ev, Option.some.injEq] at h
        subst h
        intro s hs
        simp only [List.mem_singleton] at hs; subst hs
        exact .inr ⟨f, rfl⟩
      · cases hp
    · cases hp

theorem nothing {id : Nat} {B : AB} (h : AH.get [] id = some B) : False := by
  rw [AH.get_nil] at h; cases h

theorem pureA_ok (hT : TabOK P T) (hc : FuncOK P T call) {i : Nat} {rest : List Nat} {o : Oper} (hoi : ops[i]? = some o) (hp : pureOp o.op = true) {a : Act} {β : Beta} {st st' : ASt} {w : World}
    (H : SR w0 β st a.tmps a.defers w) (h : pureA T call ops.toList o st = some st') :
    st'.nx = st.nx ∧ ∃ a' w', SR w0 β st' a'.tmps a'.defers w' ∧ Steps P (lone (fat b a (.inRegion ops (i :: rest) :: k)) cs w) (lone (fat b a' (.inRegion ops rest :: k)) cs w') := by
  have hd : b.roundOf = none ∨ isDefer o = false := by
    right
    cases ho : o.op <;> first
      | (simp [isDefer, ho]; done)
      | (rw [ho] at hp; cases hp)
  have e : (ops[i]?).bind (·.dst) = o.dst := by rw [hoi]; rfl
  unfold pureA at h
  rw [opR_eq] at h
  split at h
  · cases h
  · rename_i hwant
    have hw := want_ok H hwant
    simp only [Option.some.injEq] at h; subst h
    refine ⟨(put_fields _ _ _).2.2.1, _, w, H.put (a := a) o.dst (v := some undefA) (cv := undef) undef_val, .one ?_⟩
    rw [← e]
    exact st_op_skip (by rw [hoi]; simpa using hw)
  · rename_i hwant
    have hw := want_ok H hwant
    split at h
    · rename_i v hv
      simp only [Option.some.injEq] at h; subst h
      refine ⟨(put_fields _ _ _).2.2.1, ?_⟩
      unfold stillS at hv
      split at hv
      · rename_i u st1 hsteps
        simp only [Option.some.injEq] at hv; subst hv
        obtain ⟨s, hs, hok⟩ := opA_ok hT H hsteps
        simp only [List.mem_singleton] at hs; subst hs
        have hst : st1 = st := by
          rcases pure_st hp hsteps _ (List.mem_singleton.2 rfl) with ⟨v, hv⟩ | ⟨f, hf⟩
          · cases hv; rfl
          · cases hf
        subst hst
        obtain ⟨β', w', cv, hr, he, hn, h1, h2, h3, hW, hv⟩ := hok
        -- the lying of blocks stays: nothing new is named
        have HS : SR w0 β' st1 a.tmps a.defers w' := H.retype he hn h1 h2 h3 hW
        have hWβ : WR w0 β st1.heap st1.nx w' := hW.ext (fun i hi => (he i hi).symm) (Nat.le_refl _)
        have hvβ : ∀ av, u = some av → av.lt st1.nx ∧ cv = conc β av := fun av hav => by
          obtain ⟨h1, h2⟩ := hv av hav
          exact ⟨h1, h2.trans (he.conc h1)⟩
        refine ⟨_, w', (H.retype (Ext.refl _ _) (Nat.le_refl _) rfl rfl rfl hWβ).put (a := a) o.dst hvβ, .one ?_⟩
        rcases hr with hr | ⟨hr, rfl⟩
        · exact st_value hoi hw hd hr
        · exact st_skipped hoi hw hd hr
      · rename_i f st1 hsteps
        split at hv
        · rename_i v' hstill
          simp only [Option.some.injEq] at hv; subst hv
          obtain ⟨s, hs, hok⟩ := opA_ok hT H hsteps
          simp only [List.mem_singleton] at hs; subst hs
          obtain ⟨rfl, _, hr⟩ := hok
          unfold stillC at hstill
          split at hstill
          · rename_i v2 h2 nx2 hcall
            split at hstill
            · rename_i hids
              simp only [Option.some.injEq] at hstill; subst hstill
              obtain ⟨⟨fn, hfn, hbody⟩, hC⟩ := hc _ _ _ _ _ hcall
              have hr := hr fn hfn hbody
              have hWe : WR w β [] 0 w := ⟨Below.refl _ _, List.nodup_nil, fun id B hg => (nothing hg).elim, fun i j Bi Bj hi => (nothing hi).elim⟩
              obtain ⟨e', w', fr, ⟨x, hx, β', he, hn, hW, hlv, hR⟩, hcomes, hfrf, hleav⟩ := hC w β w hWe (fun v hv => (List.not_mem_nil hv).elim) (fat b a (.inRegion ops (i :: rest) :: k) :: cs)
              simp only [List.mem_singleton] at hx; subst hx
              cases e' with
              | returned cv =>
                simp only [ResR] at hR; subst hR
                have hWβ : WR w0 β st1.heap st1.nx w' := H.wr.frame (hW.below.mono H.wr.below.size) fun id B hg => hW.below.block _ (H.wr.here id B hg).2.2.lt
                refine ⟨a.put o.dst (conc β' v2), w', (H.retype (Ext.refl _ _) (Nat.le_refl _) rfl rfl rfl hWβ).put (a := a) o.dst (v := some v2) (some_val (lt_noids hids _) ?_), ?_⟩
                · rw [← conc_noids hids β', ← conc_noids hids β]
                · have h1 := (Steps.head (st_enter (b := b) (k := k) (cs := cs) (rest := rest) hoi hw hd hr) hcomes).trans (.one (step_leave_returned hleav))
                  rw [fat_finish, e] at h1
                  exact h1
              | panicked ch => exact hR.elim
              | outgrown => exact hR.elim
            · cases hstill
          · cases hstill
        · cases hv
      · cases hv
    · cases h
end
end Go.Abs
