/- Regions in the order of the text. -/
import Derived.Test.YtbbepcgjinfljaaGreatDoorAbsP
namespace Go.Abs
open Go.RowKit

section
variable {P : Program} {T : Tab} {call yield : CallT} {w0 : World} {b : Frame} {cs : List Frame} {k : List Item} {ops : Array Oper}

theorem opsA_nil (ops l : List Oper) (hl : l = []) (st : ASt) : opsA T call yield ops l st = some [(.normal, st)] := by subst hl; rfl
theorem opsA_cons (ops : List Oper) (o : Oper) (r : List Oper) (st : ASt) : opsA T call yield ops (o :: r) st = operA T call yield ops o (opsA T call yield ops r) st := rfl

theorem opsA_ok (hT : TabOK P T) (hc : FuncOK P T call) (hy : YieldOK P yield) (hd : b.roundOf = none ∨ ∀ o ∈ ops.toList, isDefer o = false) : ∀ (n i : Nat), i + n = ops.size → ∀ (a : Act) (β : Beta) (st : ASt) (w : World) (outs : List OutC),
    SR w0 β st a.tmps a.defers w → opsA T call yield ops.toList (ops.toList.drop i) st = some outs →
    Out P b cs k (lone (fat b a (.inRegion ops (List.range' i n) :: k)) cs w) w0 st.nx β outs := by
  intro n
  induction n with
  | zero =>
    intro i hi a β st w outs H h
    have : ops.toList.drop i = [] := List.drop_eq_nil_of_le (by simp; omega)
    rw [opsA_nil _ _ this] at h
    simp only [Option.some.injEq] at h; subst h
    exact ⟨_, List.mem_singleton.2 rfl, β, a, w, Ext.refl _ _, Nat.le_refl _, H, trivial, .one st_region_end⟩
  | succ n ih =>
    intro i hi a β st w outs H h
    have hlt : i < ops.size := by omega
    have hoi : ops[i]? = some ops[i] := by simp [hlt]
    have hdrop : ops.toList.drop i = ops[i] :: ops.toList.drop (i + 1) := by
      rw [List.drop_eq_getElem_cons (by simpa using hlt)]; simp
    rw [hdrop, opsA_cons] at h
    rw [List.range'_succ]
    exact operA_ok hT hc hy hoi (hd.imp id fun h => h _ (by simp)) H (fun st' β' a' w' outs' hgo HS _ _ => ih (i + 1) (by omega) a' β' st' w' outs' HS hgo) h
end
end Go.Abs
