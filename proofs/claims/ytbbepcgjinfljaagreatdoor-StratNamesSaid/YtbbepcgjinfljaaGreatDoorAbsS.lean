/- Regions that draw their order: any list of places, run in its order. -/
import Derived.Test.YtbbepcgjinfljaaGreatDoorAbsR
namespace Go.Abs
open Go.RowKit

/-- Some places of a region, in an order. -/
noncomputable def runL (T : Tab) (call yield : CallT) (ops : List Oper) (c : Nat) : List Nat → ASt → Option (List OutC)
  | [], st => some [(.normal, st)]
  | i :: rest, st => match ops[i]? with
    | none => none
    | some o => match Nat.beq i c with
      | true => operA T call yield ops o (runL T call yield ops c rest) st
      | false => match pureA T call ops o st with
        | none => none
        | some s => runL T call yield ops c rest s

section
variable {P : Program} {T : Tab} {call yield : CallT} {w0 : World} {b : Frame} {cs : List Frame} {k : List Item} {ops : Array Oper}

theorem drawA_run (opsL : List Oper) (c : Nat) : ∀ (n i : Nat), i + n = opsL.length → ∀ st, drawA T call yield opsL c (opsL.drop i) i st = runL T call yield opsL c (List.range' i n) st := by
  intro n
  induction n with
  | zero =>
    intro i hi st
    rw [List.drop_eq_nil_of_le (by omega)]
    rfl
  | succ n ih =>
    intro i hi st
    have hlt : i < opsL.length := by omega
    rw [List.drop_eq_getElem_cons hlt, List.range'_succ]
    have hd : drawA T call yield opsL c (opsL[i] :: opsL.drop (i + 1)) i st = match Nat.beq i c with
      | true => operA T call yield opsL opsL[i] (drawA T call yield opsL c (opsL.drop (i + 1)) (i + 1)) st
      | false => match pureA T call opsL opsL[i] st with
        | none => none
        | some s => drawA T call yield opsL c (opsL.drop (i + 1)) (i + 1) s := rfl
    have hr : runL T call yield opsL c (i :: List.range' (i + 1) n) st = match opsL[i]? with
      | none => none
      | some o => match Nat.beq i c with
        | true => operA T call yield opsL o (runL T call yield opsL c (List.range' (i + 1) n)) st
        | false => match pureA T call opsL o st with
          | none => none
          | some s => runL T call yield opsL c (List.range' (i + 1) n) s := rfl
    have hf : drawA T call yield opsL c (opsL.drop (i + 1)) (i + 1) = runL T call yield opsL c (List.range' (i + 1) n) := funext (ih (i + 1) (by omega))
    rw [hd, hr, hf, List.getElem?_eq_getElem hlt]

theorem runL_ok (hT : TabOK P T) (hc : FuncOK P T call) (hy : YieldOK P yield) (c : Nat) (hd : b.roundOf = none ∨ ∀ o ∈ ops.toList, isDefer o = false) : ∀ (is : List Nat), (∀ i ∈ is, ∃ o, ops[i]? = some o ∧ (i ≠ c → pureOp o.op = true)) →
    ∀ (a : Act) (β : Beta) (st : ASt) (w : World) (outs : List OutC), SR w0 β st a.tmps a.defers w → runL T call yield ops.toList c is st = some outs →
    Out P b cs k (lone (fat b a (.inRegion ops is :: k)) cs w) w0 st.nx β outs := by
  intro is
  induction is with
  | nil =>
    intro _ a β st w outs H h
    simp only [runL, Option.some.injEq] at h; subst h
    exact ⟨_, List.mem_singleton.2 rfl, β, a, w, Ext.refl _ _, Nat.le_refl _, H, trivial, .one st_region_end⟩
  | cons i rest ih =>
    intro his a β st w outs H h
    obtain ⟨o, hoi, hp⟩ := his i (by simp)
    have ih := ih (fun j hj => his j (by simp [hj]))
    simp only [runL, Array.getElem?_toList, hoi] at h
    split at h
    · exact operA_ok hT hc hy hoi (hd.imp id fun h => h _ (Array.mem_toList_iff.2 (Array.mem_of_getElem? hoi))) H (fun st' β' a' w' outs' hgo HS _ _ => ih a' β' st' w' outs' HS hgo) h
    · rename_i hic
      have hne : i ≠ c := by intro h; rw [nbeq] at hic; simp [h] at hic
      split at h
      · cases h
      · rename_i s hs
        obtain ⟨hnx, a', w', HS, hst⟩ := pureA_ok (b := b) (cs := cs) (k := k) (rest := rest) hT hc hoi (hp hne) H hs
        exact (ih a' β s w' outs HS h).weaken hst (Ext.refl _ _) (by rw [hnx]; exact Nat.le_refl _) (fun x hx => hx)
end
end Go.Abs
