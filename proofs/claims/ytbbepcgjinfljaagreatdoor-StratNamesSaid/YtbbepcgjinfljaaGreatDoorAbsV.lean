/- Operations of a region that do not depend on each other may change places. -/
import Derived.Test.YtbbepcgjinfljaaGreatDoorAbsU
namespace Go.Abs
open Go.RowKit

theorem rset_comm (rows : List (List OV)) {d e : Nat} (h : d ≠ e) (v u : OV) : rset (rset rows d v) e u = rset (rset rows e u) d v := by
  apply List.ext_getElem?
  intro q
  simp only [rset_get]
  by_cases h1 : d / 8 = q <;> by_cases h2 : e / 8 = q <;> simp only [h1, h2, if_true, if_false]
  cases rows[q]? with
  | none => rfl
  | some r =>
    simp only [Option.map_some]
    rw [List.set_comm]
    omega

theorem put_comm (st : ASt) {d e : Option Tmp} (h : ∀ t, d = some t → e ≠ some t) (v u : OV) : (st.put d v).put e u = (st.put e u).put d v := by
  cases d with
  | none => rfl
  | some d =>
    cases e with
    | none => rfl
    | some e =>
      have hne : d ≠ e := fun he => h d rfl (he ▸ rfl)
      simp only [ASt.put, set_eq, ASt.set1_eq]
      cases hd : Nat.blt d st.n <;> cases he : Nat.blt e st.n <;> simp only [hd]
      rw [rset_comm _ hne]

theorem rget_rset_ne (rows : List (List OV)) {d t : Nat} (h : t ≠ d) (v : OV) : rget (rset rows d v) t = rget rows t := by
  rw [rget_eq, rget_eq, rset_get]
  split
  · rename_i hq
    cases rows[t / 8]? with
    | none => rfl
    | some r =>
      simp only [Option.map_some, Option.bind_some]
      rw [List.getElem?_set_ne (by omega)]
  · rfl

theorem get_put_ne (st : ASt) {d : Option Tmp} {t : Nat} (h : d ≠ some t) (v : OV) : (st.put d v).get t = st.get t := by
  cases d with
  | none => rfl
  | some d =>
    have hne : t ≠ d := fun he => h (he ▸ rfl)
    simp only [ASt.put, set_eq, ASt.set1_eq, ASt.get]
    split
    · exact rget_rset_ne _ hne v
    · rfl

section
variable {T : Tab} {call yield : CallT} {ops : List Oper}

theorem tmpsOf_mem {l : List Operand} {x : Operand} (hx : x ∈ l) {t : Nat} (ht : t ∈ tmpOf x) : t ∈ tmpsOf l := by
  induction l with
  | nil => cases hx
  | cons a r ih =>
    show t ∈ appR (tmpOf a) (tmpsOf r)
    rw [appR_eq]
    rcases List.mem_cons.1 hx with rfl | hx
    · exact List.mem_append.2 (.inl ht)
    · exact List.mem_append.2 (.inr (ih hx))

/-- The slot of an operation's guard. -/
def guardSlot (ops : List Oper) (o : Oper) : Option Nat := o.guard.bind fun g => (ops[g.1]?).bind (·.dst)

theorem want_congr {o : Oper} {st st' : ASt} (h : ∀ t, guardSlot ops o = some t → st'.get t = st.get t) : wantA ops o st' = wantA ops o st := by
  unfold wantA
  cases hg : o.guard with
  | none => rfl
  | some g =>
    simp only [getR_eq]
    cases hp : ops[g.1]? with
    | none => rfl
    | some p =>
      simp only
      cases hd : p.dst with
      | none => rfl
      | some d =>
        simp only
        rw [h d (by simp [guardSlot, hg, hp, hd])]

/-- What a pure operation writes. -/
noncomputable def pureV (T : Tab) (call : CallT) (ops : List Oper) (o : Oper) (st : ASt) : Option OV :=
  match wantA ops o st with
  | none => none
  | some false => some (some undefA)
  | some true => stillS call (opA T o.op st)
theorem pureA_V (o : Oper) (st : ASt) : pureA T call ops o st = (pureV T call ops o st).map fun v => st.put o.dst v := by
  unfold pureA pureV
  rw [opR_eq]
  cases wantA ops o st with
  | none => rfl
  | some c => cases c with
    | false => rfl
    | true => simp only; cases stillS call (opA T o.op st) <;> rfl
theorem pureV_congr {o : Oper} (hp : pureOp o.op = true) {st st' : ASt} (he : ∀ t ∈ tmpsOf (readsOf o.op), st'.get t = st.get t) (hg : ∀ t, guardSlot ops o = some t → st'.get t = st.get t)
    (hh : bareOp o.op = true ∨ st'.heap = st.heap) : pureV T call ops o st' = pureV T call ops o st := by
  unfold pureV
  rw [want_congr hg, pure_congr hp (fun x hx => ev_tmp fun t ht => he t (tmpsOf_mem hx ht)) hh]

/-- The writers, counted from a number on. -/
noncomputable def writersF (t : Nat) (l : List Oper) : Nat → List Nat :=
  lrec (fun _ => []) (fun o _ ih i => match o.dst with
    | some d => match Nat.beq d t with
      | true => i :: ih (i + 1)
      | false => ih (i + 1)
    | none => ih (i + 1)) l
theorem writersF_cons (t : Nat) (o : Oper) (r : List Oper) (i : Nat) : writersF t (o :: r) i = match o.dst with
    | some d => match Nat.beq d t with
      | true => i :: writersF t r (i + 1)
      | false => writersF t r (i + 1)
    | none => writersF t r (i + 1) := rfl
theorem writers_mem {t : Nat} : ∀ (l : List Oper) (i j : Nat), j ∈ writersF t l i ↔ ∃ (n : Nat) (p : Oper), l[n]? = some p ∧ p.dst = some t ∧ j = i + n := by
  intro l
  induction l with
  | nil => intro i j; show j ∈ [] ↔ _; simp
  | cons o r ih =>
    intro i j
    rw [writersF_cons]
    have tail : (∃ (n : Nat) (p : Oper), r[n]? = some p ∧ p.dst = some t ∧ j = i + 1 + n) ↔ ∃ (n : Nat) (p : Oper), (o :: r)[n + 1]? = some p ∧ p.dst = some t ∧ j = i + (n + 1) := by
      constructor
      · rintro ⟨n, p, h1, h2, h3⟩; exact ⟨n, p, by simpa using h1, h2, by omega⟩
      · rintro ⟨n, p, h1, h2, h3⟩; exact ⟨n, p, by simpa using h1, h2, by omega⟩
    have split_ : (∃ (n : Nat) (p : Oper), (o :: r)[n]? = some p ∧ p.dst = some t ∧ j = i + n) ↔ (o.dst = some t ∧ j = i) ∨ ∃ (n : Nat) (p : Oper), (o :: r)[n + 1]? = some p ∧ p.dst = some t ∧ j = i + (n + 1) := by
      constructor
      · rintro ⟨n, p, h1, h2, h3⟩
        cases n with
        | zero => simp at h1; subst h1; exact .inl ⟨h2, by omega⟩
        | succ n => exact .inr ⟨n, p, h1, h2, h3⟩
      · rintro (⟨h1, h2⟩ | ⟨n, p, h1, h2, h3⟩)
        · exact ⟨0, o, rfl, h1, by omega⟩
        · exact ⟨n + 1, p, h1, h2, h3⟩
    rw [split_]
    cases hd : o.dst with
    | none => simp only [ih, tail]; simp
    | some d =>
      simp only
      by_cases hdt : d = t
      · subst hdt
        simp only [nbeq, decide_true, List.mem_cons, ih, tail, true_and]
      · simp only [nbeq_ne hdt, ih, tail]
        simp [hdt]
theorem writers_ok {t j : Nat} : j ∈ writers ops t ↔ ∃ p, ops[j]? = some p ∧ p.dst = some t := by
  show j ∈ writersF t ops 0 ↔ _
  rw [writers_mem]
  constructor
  · rintro ⟨n, p, h1, h2, h3⟩
    have : n = j := by omega
    subst this; exact ⟨p, h1, h2⟩
  · rintro ⟨p, h1, h2⟩; exact ⟨j, p, h1, h2, by omega⟩

/-- What is asked of a region's edges. -/
structure SlotsOK (ops : List Oper) : Prop where
  reads : ∀ (i : Nat) (o : Oper), ops[i]? = some o → ∀ t ∈ tmpsOf (readsOf o.op), ∀ (j : Nat) (p : Oper), ops[j]? = some p → p.dst = some t → j ∈ depsOf o ∨ i ∈ depsOf p
  guard : ∀ (i : Nat) (o : Oper) (g : Nat × Bool), ops[i]? = some o → o.guard = some g → g.1 ∈ depsOf o
  deps : ∀ (i : Nat) (o : Oper), ops[i]? = some o → ∀ j ∈ depsOf o, j < i
  own : ∀ (i : Nat) (o : Oper) (d : Nat), ops[i]? = some o → o.dst = some d → ∀ (j : Nat) (p : Oper), ops[j]? = some p → p.dst = some d → j = i

noncomputable def slotsF (ops : List Oper) (l : List Oper) : Nat → Bool := slotsOK ops l
theorem slotsOK_cons (o : Oper) (r : List Oper) (i : Nat) : slotsOK ops (o :: r) i = (
    allR (fun t => allR (fun j => memN j (depsOf o) || (match getR ops j with
      | some p => memN i (depsOf p)
      | none => false)) (writers ops t)) (tmpsOf (readsOf o.op)) &&
    (match o.guard with
      | some g => memN g.1 (depsOf o)
      | none => true) &&
    allR (fun j => Nat.blt j i) (depsOf o) &&
    (match o.dst with
      | some d => allR (fun j => Nat.beq j i) (writers ops d)
      | none => true) && slotsOK ops r (i + 1)) := rfl
theorem slots_at : ∀ (l : List Oper) (i : Nat), slotsOK ops l i = true → ∀ (n : Nat) (o : Oper), l[n]? = some o →
    (∀ t ∈ tmpsOf (readsOf o.op), ∀ j ∈ writers ops t, j ∈ depsOf o ∨ ∃ p, ops[j]? = some p ∧ (i + n) ∈ depsOf p) ∧ (∀ g, o.guard = some g → g.1 ∈ depsOf o) ∧ (∀ j ∈ depsOf o, j < i + n) ∧
      (∀ d, o.dst = some d → ∀ j ∈ writers ops d, j = i + n) := by
  intro l
  induction l with
  | nil => intro i _ n o h; simp at h
  | cons a r ih =>
    intro i h n o hn
    rw [slotsOK_cons] at h
    simp only [Bool.and_eq_true, allR_eq, List.all_eq_true] at h
    obtain ⟨⟨⟨⟨h1, h2⟩, h3⟩, h4⟩, h5⟩ := h
    cases n with
    | succ n =>
      have := ih (i + 1) h5 n o (by simpa using hn)
      rw [show i + (n + 1) = i + 1 + n by omega]
      exact this
    | zero =>
      simp only [List.getElem?_cons_zero, Option.some.injEq] at hn; subst hn
      refine ⟨?_, ?_, ?_, ?_⟩
      · intro t ht j hj
        have := h1 t ht j hj
        rw [Bool.or_eq_true, memN_eq, getR_eq] at this
        rcases this with h | h
        · exact .inl (of_decide_eq_true h)
        · right
          split at h
          · rename_i p hp
            rw [memN_eq] at h
            exact ⟨p, hp, of_decide_eq_true h⟩
          · cases h
      · intro g hg
        rw [hg] at h2
        simp only [memN_eq] at h2
        exact of_decide_eq_true h2
      · intro j hj
        have := h3 j hj
        rw [Nat.blt_eq] at this
        exact this
      · intro d hd j hj
        rw [hd] at h4
        simp only [List.all_eq_true] at h4
        have := h4 j hj
        rw [nbeq] at this
        exact of_decide_eq_true this
theorem slots_ok (h : slotsOK ops ops 0 = true) : SlotsOK ops := by
  have key := slots_at (ops := ops) ops 0 h
  refine ⟨?_, ?_, ?_, ?_⟩
  · intro i o ho t ht j p hp hd
    rcases (key i o ho).1 t ht j (writers_ok.2 ⟨p, hp, hd⟩) with h | ⟨q, hq, h⟩
    · exact .inl h
    · rw [hp] at hq; cases hq; right; simpa using h
  · intro i o g ho hg; exact (key i o ho).2.1 g hg
  · intro i o ho j hj; simpa using (key i o ho).2.2.1 j hj
  · intro i o d ho hd j p hp hpd
    simpa using (key i o ho).2.2.2 d hd j (writers_ok.2 ⟨p, hp, hpd⟩)
end
end Go.Abs
