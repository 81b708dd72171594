/- Where two are told to be the same they are. -/
import Derived.Test.YtbbepcgjinfljaaGreatDoorAbsY
namespace Go.Abs
open Go.RowKit

theorem eqL_nil {α : Type} (f : α → α → Bool) (m : List α) : eqL f [] m = match m with
    | [] => true
    | _ :: _ => false := rfl
theorem eqL_cons {α : Type} (f : α → α → Bool) (a : α) (r m : List α) : eqL f (a :: r) m = match m with
    | [] => false
    | b :: s => match f a b with
      | true => eqL f r s
      | false => false := rfl
theorem eqL_ok {α : Type} {f : α → α → Bool} (hf : ∀ a b, f a b = true → a = b) : ∀ (l m : List α), eqL f l m = true → l = m := by
  intro l
  induction l with
  | nil =>
    intro m h
    rw [eqL_nil] at h
    split at h
    · rfl
    · cases h
  | cons a r ih =>
    intro m h
    rw [eqL_cons] at h
    split at h
    · cases h
    · rename_i b s
      split at h
      · rename_i hab
        rw [hf a b hab, ih s h]
      · cases h

theorem beq0_ok (a b : AV) (h : beq0 a b = true) : a = b := by
  unfold beq0 at h
  cases a <;> simp only at h <;> first
    | (cases h; done)
    | (split at h <;> first
        | (cases h; done)
        | rfl
        | (simp only [nbeq, ieq_ok, Bool.and_eq_true, decide_eq_true_eq, beq_iff_eq] at h; simp_all; done)
        | (simp only [ieq_ok, Bool.and_eq_true, beq_iff_eq] at h; rw [kindEq_ok h.1, h.2]))

theorem beq1_ok (a b : AV) (h : beq1 a b = true) : a = b := by
  unfold beq1 at h
  split at h
  · split at h
    · rw [eqL_ok beq0_ok _ _ h]
    · cases h
  · split at h
    · rw [eqL_ok beq0_ok _ _ h]
    · cases h
  · split at h
    · simp only [Bool.and_eq_true, nbeq, decide_eq_true_eq] at h
      obtain ⟨⟨h1, h2⟩, h3⟩ := h
      rw [h1, eqL_ok beq0_ok _ _ h2, eqL_ok beq0_ok _ _ h3]
    · cases h
  · exact beq0_ok a b h

theorem beqV_ok (a b : AV) (h : beqV a b = true) : a = b := by
  unfold beqV at h
  split at h
  · split at h
    · simp only [Bool.and_eq_true, nbeq, decide_eq_true_eq] at h
      rw [h.1, beq1_ok _ _ h.2]
    · cases h
  · exact beq1_ok a b h

theorem beqOV_ok (a b : OV) (h : beqOV a b = true) : a = b := by
  unfold beqOV at h
  split at h
  · split at h
    · rfl
    · cases h
  · split at h
    · cases h
    · rw [beqV_ok _ _ h]

theorem nat_ok (a b : Nat) (h : Nat.beq a b = true) : a = b := Nat.eq_of_beq_eq_true h

theorem beqON_ok (a b : Option Nat) (h : beqON a b = true) : a = b := by
  unfold beqON at h
  split at h
  · split at h
    · rfl
    · cases h
  · split at h
    · cases h
    · rw [nat_ok _ _ h]

theorem beqAB_ok (a b : AB) (h : beqAB a b = true) : a = b := by
  unfold beqAB at h
  split at h
  · split at h
    · rw [eqL_ok beqV_ok _ _ h]
    · cases h
  · split at h
    · rw [eqL_ok (fun x y hxy => by
        simp only [Bool.and_eq_true] at hxy
        exact Prod.ext (beqV_ok _ _ hxy.1) (beqV_ok _ _ hxy.2)) _ _ h]
    · cases h
  · split at h
    · simp only [Bool.and_eq_true] at h
      obtain ⟨⟨⟨h1, h2⟩, h3⟩, h4⟩ := h
      rw [eqL_ok nat_ok _ _ h1, nat_ok _ _ h2, nat_ok _ _ h3, beqON_ok _ _ h4]
    · cases h
  · split at h
    · rfl
    · cases h
  · cases h

theorem beqAH_ok (a b : AH) (h : beqAH a b = true) : a = b :=
  eqL_ok (fun x y hxy => by
    simp only [Bool.and_eq_true] at hxy
    exact Prod.ext (nat_ok _ _ hxy.1) (beqAB_ok _ _ hxy.2)) _ _ h

theorem beqD_ok (a b : List ADef) (h : beqD a b = true) : a = b :=
  eqL_ok (fun x y hxy => by
    cases x with
    | fn f l => cases y with
      | fn g m =>
        simp only [Bool.and_eq_true] at hxy
        rw [nat_ok _ _ hxy.1, eqL_ok beqV_ok _ _ hxy.2]
      | coll i => cases hxy
    | coll i => cases y with
      | fn g m => cases hxy
      | coll j => simp only at hxy; rw [nat_ok _ _ hxy]) _ _ h

theorem beqSt_ok (a b : ASt) (h : beqSt a b = true) : a = b := by
  unfold beqSt at h
  simp only [Bool.and_eq_true] at h
  obtain ⟨⟨⟨⟨h1, h2⟩, h3⟩, h4⟩, h5⟩ := h
  have e1 := beqAH_ok _ _ h1
  have e2 := nat_ok _ _ h2
  have e3 := nat_ok _ _ h3
  have e4 := eqL_ok (eqL_ok beqOV_ok) _ _ h4
  have e5 := beqD_ok _ _ h5
  cases a; cases b; simp_all

theorem beqEx_ok (a b : Ex) (h : beqEx a b = true) : a = b := by
  unfold beqEx at h
  split at h
  · split at h
    · rfl
    · cases h
  · split at h
    · rw [nat_ok _ _ h]
    · cases h
  · split at h
    · rfl
    · cases h
  · split at h
    · rw [beqV_ok _ _ h]
    · cases h

theorem beqR_ok (a b : Res) (h : beqR a b = true) : a = b := by
  unfold beqR at h
  split at h
  · split at h
    · rw [beqV_ok _ _ h]
    · cases h
  · split at h
    · cases h
    · rw [beqV_ok _ _ h]

theorem beqF_ok (a b : OutF) (h : beqF a b = true) : a = b := by
  unfold beqF at h
  simp only [Bool.and_eq_true] at h
  exact Prod.ext (beqR_ok _ _ h.1.2) (Prod.ext (beqAH_ok _ _ h.2) (nat_ok _ _ h.1.1))

/-- Each once: none is lost. -/
theorem onceBy_ok {α : Type} {same : α → α → Bool} (hs : ∀ a b, same a b = true → a = b) : ∀ (l acc : List α), ∀ a, a ∈ acc ∨ a ∈ l → a ∈ onceBy same l acc := by
  intro l
  induction l with
  | nil =>
    intro acc a h
    rcases h with h | h
    · exact h
    · cases h
  | cons b r ih =>
    intro acc a h
    have hd : onceBy same (b :: r) acc = match anyR (fun c => same c b) acc with
      | true => onceBy same r acc
      | false => onceBy same r (b :: acc) := rfl
    rw [hd]
    split
    · rename_i hany
      rw [anyR_eq, List.any_eq_true] at hany
      obtain ⟨c, hc, hcb⟩ := hany
      have := hs c b hcb
      subst this
      refine ih acc a ?_
      rcases h with h | h
      · exact .inl h
      · rcases List.mem_cons.1 h with rfl | h
        · exact .inl hc
        · exact .inr h
    · refine ih (b :: acc) a ?_
      rcases h with h | h
      · exact .inl (List.mem_cons_of_mem _ h)
      · rcases List.mem_cons.1 h with rfl | h
        · exact .inl (by simp)
        · exact .inr h
end Go.Abs
