/- Neighbours that do not depend on each other change places. -/
import Derived.Test.YtbbepcgjinfljaaGreatDoorAbsV
namespace Go.Abs
open Go.RowKit

section
variable {T : Tab} {call yield : CallT} {ops : List Oper}

theorem put_heap (st : ASt) (d : Option Tmp) (v : OV) (h : AH) : ({ st.put d v with heap := h } : ASt) = ({ st with heap := h } : ASt).put d v := by
  cases d with
  | none => rfl
  | some d =>
    simp only [ASt.put, set_eq, ASt.set1_eq]
    split <;> rfl
theorem get_heap (st : ASt) (h : AH) (t : Nat) : ({ st with heap := h } : ASt).get t = st.get t := rfl
theorem put_heap_same (st : ASt) (d : Option Tmp) (v : OV) : (st.put d v).heap = st.heap := (put_fields st d v).2.1

theorem evs_congr {st st' : ASt} : ∀ {l : List Operand}, (∀ x ∈ l, st'.ev x = st.ev x) → evs st' l = evs st l := by
  intro l
  induction l with
  | nil => intro _; rfl
  | cons a r ih =>
    intro h
    have hd : ∀ s : ASt, evs s (a :: r) = match s.ev a with
      | some v => match evs s r with
        | some l => some (v :: l)
        | none => none
      | none => none := fun s => rfl
    rw [hd, hd, h a (by simp), ih fun x hx => h x (by simp [hx])]

/-- An operation that leaves not turns memory alone. -/
theorem loud_congr {o : Op} (hl : leavesNot o = true) {st : ASt} {steps : List Step} {d : Option Tmp} {u : OV} (he : ∀ x ∈ readsOf o, (st.put d u).ev x = st.ev x) (h : opA T o (st.put d u) = some steps) :
    ∃ v h', steps = [.val v { st.put d u with heap := h' }] ∧ opA T o st = some [.val v { st with heap := h' }] := by
  have hh := put_heap_same st d u
  cases o <;> first
    | (simp [leavesNot] at hl; done)
    | skip
  case mapUpdate t m k x =>
    have h1 := he m (by simp [readsOf]); have h2 := he k (by simp [readsOf]); have h3 := he x (by simp [readsOf])
    simp only [opA, opMapUpdate, h1, h2, h3, hh] at h ⊢
    repeat' (split at h)
    all_goals first
      | (cases h; done)
      | (simp only [val, Option.some.injEq] at h; subst h; exact ⟨_, _, rfl, rfl⟩)
  case call c =>
    simp only [leavesNot] at hl
    split at hl
    · rename_i hcal
      have hargs : evs (st.put d u) c.args.toList = evs st c.args.toList := evs_congr fun x hx => he x (by simp only [readsOf, hcal]; exact hx)
      simp only [opA, opCall, hcal, builtinA, hargs, copyA, copyTo, hh] at h ⊢
      repeat' (split at h)
      all_goals first
        | (cases h; done)
        | (simp only [val, Option.some.injEq] at h; subst h; exact ⟨_, _, rfl, rfl⟩)
    · cases hl

theorem runL_cons (c i : Nat) (rest : List Nat) (st : ASt) {o : Oper} (ho : ops[i]? = some o) : runL T call yield ops c (i :: rest) st = match Nat.beq i c with
      | true => operA T call yield ops o (runL T call yield ops c rest) st
      | false => match pureA T call ops o st with
        | none => none
        | some s => runL T call yield ops c rest s := by
  simp only [runL, ho]
  rfl
theorem runL_pure {c i : Nat} (hic : i ≠ c) (rest : List Nat) (st : ASt) {o : Oper} (ho : ops[i]? = some o) : runL T call yield ops c (i :: rest) st = match pureV T call ops o st with
      | none => none
      | some v => runL T call yield ops c rest (st.put o.dst v) := by
  rw [runL_cons c i rest st ho, nbeq_ne hic]
  simp only [pureA_V]
  cases pureV T call ops o st <;> rfl

theorem swap_ok (S : SlotsOK ops) {c i j : Nat} {oi oj : Oper} (hi : ops[i]? = some oi) (hj : ops[j]? = some oj) (hlt : j < i) (hdep : j ∉ depsOf oi) (hjc : j ≠ c) (hpj : pureOp oj.op = true)
    (hpi : i ≠ c → pureOp oi.op = true) (hc : i = c → bareOp oj.op = true ∧ leavesNot oi.op = true) {rest : List Nat} {st : ASt} {outs : List OutC}
    (h : runL T call yield ops c (j :: i :: rest) st = some outs) : runL T call yield ops c (i :: j :: rest) st = some outs := by
  have A1 : ∀ t ∈ tmpsOf (readsOf oi.op), oj.dst ≠ some t := fun t ht hd => by
    rcases S.reads i oi hi t ht j oj hj hd with h | h
    · exact hdep h
    · have := S.deps j oj hj i h; omega
  have A2 : ∀ t ∈ tmpsOf (readsOf oj.op), oi.dst ≠ some t := fun t ht hd => by
    rcases S.reads j oj hj t ht i oi hi hd with h | h
    · have := S.deps j oj hj i h; omega
    · exact hdep h
  have A3 : ∀ t, oj.dst = some t → oi.dst ≠ some t := fun t h1 h2 => by
    have := S.own i oi t hi h2 j oj hj h1; omega
  have A4 : ∀ t, guardSlot ops oi = some t → oj.dst ≠ some t := fun t hg hd => by
    unfold guardSlot at hg
    cases hgi : oi.guard with
    | none => rw [hgi] at hg; cases hg
    | some g =>
      rw [hgi] at hg
      simp only [Option.bind_some] at hg
      cases hp : ops[g.1]? with
      | none => rw [hp] at hg; cases hg
      | some p =>
        rw [hp] at hg
        have := S.own g.1 p t hp hg j oj hj hd
        subst this
        exact hdep (S.guard i oi g hi hgi)
  have A5 : ∀ t, guardSlot ops oj = some t → oi.dst ≠ some t := fun t hg hd => by
    unfold guardSlot at hg
    cases hgj : oj.guard with
    | none => rw [hgj] at hg; cases hg
    | some g =>
      rw [hgj] at hg
      simp only [Option.bind_some] at hg
      cases hp : ops[g.1]? with
      | none => rw [hp] at hg; cases hg
      | some p =>
        rw [hp] at hg
        have h1 := S.own g.1 p t hp hg i oi hi hd
        have h2 := S.deps j oj hj g.1 (S.guard j oj g hj hgj)
        omega
  rw [runL_pure hjc _ _ hj] at h
  split at h
  · cases h
  · rename_i vj hvj
    by_cases hic : i = c
    · obtain ⟨hbare, hleaves⟩ := hc hic
      have hji : Nat.beq i c = true := by rw [nbeq]; simpa using hic
      rw [runL_cons c i _ _ hi, hji] at h ⊢
      simp only at h ⊢
      have hwant : wantA ops oi (st.put oj.dst vj) = wantA ops oi st := want_congr fun t ht => get_put_ne st (A4 t ht) vj
      have step : ∀ (h' : AH) (v : OV), runL T call yield ops c (j :: rest) (({ st with heap := h' } : ASt).put oi.dst v) = runL T call yield ops c rest (({ st.put oj.dst vj with heap := h' } : ASt).put oi.dst v) := by
        intro h' v
        rw [runL_pure hjc _ _ hj]
        have : pureV T call ops oj (({ st with heap := h' } : ASt).put oi.dst v) = some vj := by
          rw [← hvj]
          refine pureV_congr hpj ?_ ?_ (.inl hbare)
          · intro t ht; rw [get_put_ne _ (A2 t ht)]; rfl
          · intro t ht; rw [get_put_ne _ (A5 t ht)]; rfl
        rw [this]
        simp only
        rw [put_heap, put_comm _ (fun t h1 h2 => A3 t h2 h1)]
      simp only [operA_eq] at h ⊢
      rw [hwant] at h
      split at h
      · cases h
      · rename_i hw
        have := step st.heap (some undefA)
        rw [show ({ st with heap := st.heap } : ASt) = st from rfl] at this
        rw [this]
        rw [show ({ st.put oj.dst vj with heap := st.heap } : ASt) = st.put oj.dst vj by rw [← put_heap_same st oj.dst vj]]
        exact h
      · rename_i hw
        split at h
        · cases h
        · rename_i steps hs
          obtain ⟨v, h', rfl, hs2⟩ := loud_congr hleaves (fun x hx => ev_tmp fun t ht => get_put_ne st (A1 t (tmpsOf_mem hx ht)) vj) hs
          rw [hs2]
          simp only
          have hgo : ∀ (go : ASt → Option (List OutC)) (s : ASt), goL (behindS call yield go oi.dst) [.val v s] = go (s.put oi.dst v) := by
            intro go s
            rw [goL_cons, show behindS call yield go oi.dst (.val v s) = go (s.put oi.dst v) from rfl]
            cases go (s.put oi.dst v) <;> rfl
          rw [hgo] at h ⊢
          rw [step]; exact h
    · rw [runL_pure hic _ _ hi] at h ⊢
      have hvi : pureV T call ops oi (st.put oj.dst vj) = pureV T call ops oi st :=
        pureV_congr (hpi hic) (fun t ht => get_put_ne st (A1 t ht) vj) (fun t ht => get_put_ne st (A4 t ht) vj) (.inr (put_heap_same _ _ _))
      rw [hvi] at h
      cases hv : pureV T call ops oi st with
      | none => rw [hv] at h; cases h
      | some vi =>
        rw [hv] at h
        simp only at h ⊢
        rw [runL_pure hjc _ _ hj]
        have : pureV T call ops oj (st.put oi.dst vi) = some vj := by
          rw [← hvj]
          exact pureV_congr hpj (fun t ht => get_put_ne st (A2 t ht) vi) (fun t ht => get_put_ne st (A5 t ht) vi) (.inr (put_heap_same _ _ _))
        rw [this]
        simp only
        rw [put_comm _ (fun t h1 h2 => A3 t h2 h1)]
        exact h
end
end Go.Abs
