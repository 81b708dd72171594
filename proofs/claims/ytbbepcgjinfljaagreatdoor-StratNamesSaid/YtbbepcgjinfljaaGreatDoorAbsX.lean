/- Every order that a region may draw gives what the text's order gives. -/
import Derived.Test.YtbbepcgjinfljaaGreatDoorAbsW
import Derived.Orders
namespace Go.Abs
open Go.RowKit

section
variable {T : Tab} {call yield : CallT} {ops : List Oper}

theorem goL_mono {α γ : Type} {f g : α → Option (List γ)} : ∀ {l : List α} {r : List γ}, (∀ a ∈ l, ∀ x, f a = some x → g a = some x) → goL f l = some r → goL g l = some r := by
  intro l
  induction l with
  | nil => intro r _ h; exact h
  | cons a t ih =>
    intro r hfg h
    rw [goL_cons] at h ⊢
    cases hfa : f a with
    | none => rw [hfa] at h; cases h
    | some x =>
      rw [hfa] at h
      rw [hfg a (by simp) x hfa]
      cases t with
      | nil => exact h
      | cons b s =>
        simp only at h ⊢
        cases hg : goL f (b :: s) with
        | none => rw [hg] at h; cases h
        | some y =>
          rw [hg] at h
          rw [ih (fun a ha => hfg a (by simp [ha])) hg]
          exact h

theorem behindC_mono {go go' : ASt → Option (List OutC)} (hg : ∀ st outs, go st = some outs → go' st = some outs) {st : ASt} {dst : Option Tmp} {o : Option (List OutF)} {outs : List OutC}
    (h : behindC go st dst o = some outs) : behindC go' st dst o = some outs := by
  unfold behindC at h ⊢
  cases o with
  | none => cases h
  | some l =>
    refine goL_mono (fun x _ y hy => ?_) h
    obtain ⟨r, hh, nx⟩ := x
    cases r with
    | ret v => exact hg _ _ hy
    | panic v => exact hy

theorem operA_mono {go go' : ASt → Option (List OutC)} (hg : ∀ st outs, go st = some outs → go' st = some outs) {o : Oper} {st : ASt} {outs : List OutC}
    (h : operA T call yield ops o go st = some outs) : operA T call yield ops o go' st = some outs := by
  simp only [operA_eq] at h ⊢
  cases hw : wantA ops o st with
  | none => rw [hw] at h; cases h
  | some c =>
    rw [hw] at h
    cases c with
    | false => exact hg _ _ h
    | true =>
      simp only at h ⊢
      cases hs : opA T o.op st with
      | none => rw [hs] at h; cases h
      | some steps =>
        rw [hs] at h
        refine goL_mono (fun s _ x hx => ?_) h
        cases s with
        | val v st' => exact hg _ _ hx
        | defer d st' => exact hg _ _ hx
        | panic v st' => exact hx
        | enter f args st' => exact behindC_mono hg hx
        | round l args st' => exact behindC_mono hg hx

theorem runL_mono {c i : Nat} {l l' : List Nat} (hl : ∀ st outs, runL T call yield ops c l st = some outs → runL T call yield ops c l' st = some outs) {st : ASt} {outs : List OutC}
    (h : runL T call yield ops c (i :: l) st = some outs) : runL T call yield ops c (i :: l') st = some outs := by
  cases ho : ops[i]? with
  | none => simp only [runL, ho] at h; cases h
  | some o =>
    rw [runL_cons c i _ _ ho] at h ⊢
    cases hb : Nat.beq i c with
    | true =>
      rw [hb] at h
      exact operA_mono hl h
    | false =>
      rw [hb] at h
      simp only at h ⊢
      cases hp : pureA T call ops o st with
      | none => rw [hp] at h; cases h
      | some s => rw [hp] at h; exact hl _ _ h

/-- What a region that draws is asked for, by places. -/
structure DrawOK (ops : List Oper) (c : Nat) : Prop where
  slots : SlotsOK ops
  pure : ∀ (i : Nat) (o : Oper), ops[i]? = some o → i ≠ c → pureOp o.op = true
  behind : ∀ (i : Nat) (o : Oper), ops[i]? = some o → c < i → c ∈ depsOf o
  ahead : ∀ (oc : Oper), ops[c]? = some oc → ∀ (i : Nat) (o : Oper), ops[i]? = some o → i < c → (bareOp o.op = true ∧ leavesNot oc.op = true) ∨
    ∀ E : Nat → Prop, (∀ (e : Nat) (oe : Oper), E e → ops[e]? = some oe → ∀ j ∈ depsOf oe, E j) → (∀ j ∈ depsOf oc, E j) → E i

theorem front_ok {c : Nat} (D : DrawOK ops c) {i : Nat} {oi : Oper} (hi : ops[i]? = some oi) {post : List Nat} : ∀ (pre : List Nat),
    (∀ j ∈ pre, ∃ oj, ops[j]? = some oj ∧ j < i ∧ j ∉ depsOf oi ∧ j ≠ c ∧ (i = c → bareOp oj.op = true ∧ leavesNot oi.op = true)) → ∀ {st : ASt} {outs : List OutC},
    runL T call yield ops c (pre ++ i :: post) st = some outs → runL T call yield ops c (i :: (pre ++ post)) st = some outs := by
  intro pre
  induction pre with
  | nil => intro _ st outs h; exact h
  | cons p pre ih =>
    intro hp st outs h
    obtain ⟨op, hop, hlt, hdep, hpc, hc⟩ := hp p (by simp)
    have h1 : runL T call yield ops c (p :: i :: (pre ++ post)) st = some outs :=
      runL_mono (fun st outs h => ih (fun j hj => hp j (by simp [hj])) h) h
    exact swap_ok D.slots hi hop hlt hdep hpc (D.pure p op hop hpc) (D.pure i oi hi) hc h1

/-- A list of places each of which lies behind what it depends on. -/
def Topo (ops : List Oper) (E : Nat → Prop) : List Nat → Prop
  | [] => True
  | i :: r => (∃ o, ops[i]? = some o ∧ ∀ j ∈ depsOf o, E j) ∧ Topo ops (fun j => E j ∨ j = i) r

theorem order_ok {c : Nat} (D : DrawOK ops c) : ∀ (d : List Nat) (E : Nat → Prop) (l : List Nat), (∀ (e : Nat) (oe : Oper), E e → ops[e]? = some oe → ∀ j ∈ depsOf oe, E j) → (∀ i ∈ l, ¬ E i) → l.Pairwise (· < ·) →
    d.Nodup → (∀ i, i ∈ d ↔ i ∈ l) → (∀ i ∈ l, ∃ o, ops[i]? = some o) → Topo ops E d → ∀ {st : ASt} {outs : List OutC},
    runL T call yield ops c l st = some outs → runL T call yield ops c d st = some outs := by
  intro d
  induction d with
  | nil =>
    intro E l _ _ _ _ hm _ _ st outs h
    have : l = [] := List.eq_nil_iff_forall_not_mem.2 fun i hi => by have := (hm i).2 hi; cases this
    subst this; exact h
  | cons i d ih =>
    intro E l hE hl hs hnd hm hin ht st outs h
    obtain ⟨⟨oi, hoi, hdeps⟩, ht'⟩ := ht
    have hil : i ∈ l := (hm i).1 (by simp)
    obtain ⟨pre, post, rfl⟩ := List.append_of_mem hil
    rw [List.pairwise_append] at hs
    obtain ⟨hs1, hs2, hs3⟩ := hs
    rw [List.nodup_cons] at hnd
    have hpre : ∀ j ∈ pre, ∃ oj, ops[j]? = some oj ∧ j < i ∧ j ∉ depsOf oi ∧ j ≠ c ∧ (i = c → bareOp oj.op = true ∧ leavesNot oi.op = true) := by
      intro j hj
      have hjl : j ∈ pre ++ i :: post := List.mem_append.2 (.inl hj)
      obtain ⟨oj, hoj⟩ := hin j hjl
      have hlt : j < i := hs3 j hj i (by simp)
      have hnE := hl j hjl
      refine ⟨oj, hoj, hlt, fun h => hnE (hdeps j h), ?_, ?_⟩
      · rintro rfl
        exact hnE (hdeps j (D.behind i oi hoi hlt))
      · rintro rfl
        rcases D.ahead oi hoi j oj hoj hlt with h | h
        · exact h
        · exact absurd (h E hE hdeps) hnE
    have h1 := front_ok (T := T) (call := call) (yield := yield) D hoi pre hpre h
    have hps : (pre ++ post).Pairwise (· < ·) := by
      rw [List.pairwise_append]
      exact ⟨hs1, (List.pairwise_cons.1 hs2).2, fun a ha b hb => hs3 a ha b (by simp [hb])⟩
    have hipp : i ∉ pre ++ post := by
      intro h
      rcases List.mem_append.1 h with h | h
      · have := hs3 i h i (by simp); omega
      · have := (List.pairwise_cons.1 hs2).1 i h; omega
    refine runL_mono (fun st outs h => ih (fun j => E j ∨ j = i) (pre ++ post) ?_ ?_ hps hnd.2 ?_ ?_ ht' h) h1
    · rintro e oe (he | rfl) hoe j hj
      · exact .inl (hE e oe he hoe j hj)
      · rw [hoi] at hoe; cases hoe; exact .inl (hdeps j hj)
    · rintro j hj (h | rfl)
      · exact hl j (by rcases List.mem_append.1 hj with h | h <;> simp [h]) h
      · exact hipp hj
    · intro j
      constructor
      · intro hj
        have h1 := (hm j).1 (by simp [hj])
        have hne : j ≠ i := fun h => hnd.1 (h ▸ hj)
        rcases List.mem_append.1 h1 with h | h
        · simp [h]
        · rcases List.mem_cons.1 h with h | h
          · exact absurd h hne
          · simp [h]
      · intro hj
        have hne : j ≠ i := fun h => hipp (h ▸ hj)
        have h1 := (hm j).2 (by rcases List.mem_append.1 hj with h | h <;> simp [h])
        rcases List.mem_cons.1 h1 with h | h
        · exact absurd h hne
        · exact h
    · intro j hj
      exact hin j (by rcases List.mem_append.1 hj with h | h <;> simp [h])
end
end Go.Abs
