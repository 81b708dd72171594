/- Calls: every call of the abstract run is sound. -/
import Derived.Test.YtbbepcgjinfljaaGreatDoorAbsZ3
namespace Go.Abs
open Go.RowKit

section
variable {P : Program} {T : Tab} {call yield : CallT}

/-- What is known of one call. -/
def Fact (P : Program) (T : Tab) (f : FuncId) (args : List AV) (h : AH) (nx : Nat) (outs : List OutF) : Prop :=
  (∃ fn, T.fn f = some fn ∧ fn.body.isSome = true) ∧
  ∀ w0 β w, WR w0 β h nx w → ltL nx args → Calls P f (concL β args).toArray w fun e w' =>
    ∃ x ∈ outs, ∃ β', Ext nx β β' ∧ nx ≤ x.2.2 ∧ WR w0 β' x.2.1 x.2.2 w' ∧ x.1.v.lt x.2.2 ∧ ResR β' x.1 e

theorem funcOK_iff : FuncOK P T call ↔ ∀ f args h nx outs, call f args h nx = some outs → Fact P T f args h nx outs := Iff.rfl

noncomputable def setFromF (l : List AV) : Nat → List (List OV) → List (List OV) :=
  lrec (fun _ rows => rows) (fun a _ ih i rows => ih (i + 1) (rset rows i (some a))) l
theorem setFromF_cons (a : AV) (l : List AV) (i : Nat) (rows : List (List OV)) : setFromF (a :: l) i rows = setFromF l (i + 1) (rset rows i (some a)) := rfl
theorem setFromF_ok {t : Nat} {v : AV} : ∀ (l : List AV) (i : Nat) (rows : List (List OV)), rget (setFromF l i rows) t = some v → (i ≤ t ∧ l[t - i]? = some v) ∨ ((t < i ∨ i + l.length ≤ t) ∧ rget rows t = some v) := by
  intro l
  induction l with
  | nil =>
    intro i rows h
    right
    refine ⟨?_, h⟩
    simp; omega
  | cons a l ih =>
    intro i rows h
    rw [setFromF_cons] at h
    rcases ih _ _ h with ⟨h1, h2⟩ | ⟨h1, h2⟩
    · left
      refine ⟨by omega, ?_⟩
      rw [show t - i = (t - (i + 1)) + 1 by omega]
      simpa using h2
    · rcases rget_rset h2 with ⟨rfl, hv⟩ | ⟨hne, hv⟩
      · left; exact ⟨Nat.le_refl _, by simpa using hv⟩
      · right
        refine ⟨?_, hv⟩
        simp only [List.length_cons]
        omega
theorem rowsOf_get {n t : Nat} {v : AV} (h : rget (rowsOf n) t = some v) : v = undefA := by
  rw [rget_eq] at h
  unfold rowsOf at h
  simp only [repR_eq, List.getElem?_replicate] at h
  split at h
  · simp only [Option.bind_some, List.getElem?_replicate] at h
    split at h
    · simpa using h.symm
    · cases h
  · cases h

theorem st_end {b : Frame} {a : Act} {cs : List Frame} {w : World} (h : b.roundOf = none) : step P (lone (fat b a []) cs w) = .next (lone { fat b a [] with mode := .returning } cs w) :=
  step_lone_go (by simp [stepG, stepG.exec, fat, h])
theorem st_ret {b : Frame} {a : Act} {k : List Item} {cs : List Frame} {w : World} (h : b.roundOf = none) : step P (lone (fat b a (.code .ret :: k)) cs w) = .next (lone { fat b a (.code .ret :: k) with mode := .returning } cs w) :=
  step_lone_go (by simp [stepG, stepG.exec, fat, h])

/-- A function's call, out of its body's run. -/
theorem func_ok (hT : TabOK P T) (hc : FuncOK P T call) {f : FuncId} {args : List AV} {h : AH} {nx : Nat} {outs : List OutF} {fn : Func} (hfn : T.fn f = some fn) {c : Code} (hbody : fn.body = some c) {go : ASt → Option (List OutC)}
    (hgoc : ∀ (w0 : World) (b : Frame), CtxOK ⟨f, false⟩ b → CodeOK P w0 b go c) (hble : Nat.ble (lenR args) fn.ntmps = true) {outs1 : List OutC}
    (hcode : go { n := fn.ntmps, rows := setFrom (rowsOf fn.ntmps) args, defers := [], heap := h, nx := nx } = some outs1) (hr : closeF T f nx (goL (exitF T call fn) outs1) = some outs) : Fact P T f args h nx outs := by
  refine ⟨⟨fn, hfn, by rw [hbody]; rfl⟩, fun w0 β w H hl cs => ?_⟩
  have hle : args.length ≤ fn.ntmps := by rw [lenR_eq] at hble; exact Nat.le_of_ble_eq_true hble
  let b : Frame := { (default : Frame) with fn := f, kind := .normal, roundOf := none }
  let a0 : Act := { tmps := (concL β args).toArray ++ Array.replicate (fn.ntmps - (concL β args).toArray.size) undef, defers := [] }
  have hf := hT.fn f fn hfn
  have henter : Frame.enter P f (concL β args).toArray .normal = fat b a0 [.code c] := by
    simp [Frame.enter, fat, hf.1, hbody, b, a0]
  have hlen : (concL β args).length = args.length := by simp [concL_map]
  have hrows : RowsR β nx (setFrom (rowsOf fn.ntmps) args) a0.tmps := by
    intro t v hv
    rcases setFromF_ok args 0 (rowsOf fn.ntmps) (show rget (setFromF args 0 (rowsOf fn.ntmps)) t = some v from hv) with ⟨_, h1⟩ | ⟨h1, h2⟩
    · simp only [Nat.sub_zero] at h1
      refine ⟨hl v (List.mem_of_getElem? h1), ?_⟩
      have hlt := (List.getElem?_eq_some_iff.1 h1).1
      show ((concL β args).toArray ++ Array.replicate _ undef).getD t undef = _
      rw [Array.getD_eq_getD_getElem?, Array.getElem?_append_left (by simpa [hlen] using hlt)]
      simp [concL_map, h1]
    · have := rowsOf_get h2
      subst this
      refine ⟨lt_noids rfl _, ?_⟩
      show ((concL β args).toArray ++ Array.replicate _ undef).getD t undef = undef
      rw [Array.getD_eq_getD_getElem?, Array.getElem?_append_right (by simp only [List.size_toArray, hlen]; omega)]
      rw [Array.getElem?_replicate]
      split <;> rfl
  have S0 : SR w0 β { n := fn.ntmps, rows := setFrom (rowsOf fn.ntmps) args, defers := [], heap := h, nx := nx } a0.tmps a0.defers w :=
    ⟨H, by simp [a0, hlen]; omega, hrows, (fun d hd => by cases hd), rfl⟩
  have hx : CtxOK ⟨f, false⟩ b := ⟨rfl, rfl⟩
  obtain ⟨x1, hx1, β1, a1, w1, e1, n1, S1, l1, g1⟩ := hgoc w0 b hx cs [] a0 β _ w outs1 S0 hcode
  cases hgo : goL (exitF T call fn) outs1 with
  | none => rw [hgo] at hr; cases hr
  | some outs2 =>
    rw [hgo] at hr
    obtain ⟨o2, ho2, hsub⟩ := goL_ok hgo x1 hx1
    -- out of the body, into the leaving
    have out : ∀ (p : Option AV) (fr : Frame), leaveA T call fn x1.2.defers p x1.2 = some o2 → fr.tmps = a1.tmps → fr.mode = modeOf β1 p → (∀ v, p = some v → v.lt x1.2.nx) → fr.defers = a1.defers → fr.fn = f → fr.kind = .normal →
        Steps P (lone (fat b a0 [.code c]) cs w) (lone fr cs w1) → ∃ e w' fr', (∃ x ∈ outs, ∃ β', Ext nx β β' ∧ nx ≤ x.2.2 ∧ WR w0 β' x.2.1 x.2.2 w' ∧ x.1.v.lt x.2.2 ∧ ResR β' x.1 e) ∧
          Comes P (lone (Frame.enter P f (concL β args).toArray .normal) cs w) (lone fr' cs w') e ∧ fr'.fn = f ∧ fr'.leaving P w' e := by
      intro p fr hleave ht hmode hp hd hfnm hk hsteps
      obtain ⟨x, hx, β2, w2, fr2, e, q1, q2, q3, q4, q5, q6, q7, q8⟩ := leaveA_ok hT hc x1.2.defers p x1.2 o2 hleave β1 w1 fr cs S1.wr (by rw [ht]; exact S1.rows) hmode hp (by rw [hd, S1.df]) S1.dlt (by rw [hfnm]; exact hf.1) hk
      have hE : EndOK w0 nx β x e w2 := ⟨β2, e1.trans q1 n1, Nat.le_trans n1 q2, q3, q4, q5⟩
      obtain ⟨y, hy, hEy⟩ := closeF_ok hr (hsub x hx) hE
      refine ⟨e, w2, fr2, ⟨y, hy, hEy⟩, ?_, by rw [q7, hfnm], q8⟩
      rw [henter]
      cases e with
      | outgrown =>
        obtain ⟨r, hh, n⟩ := x
        cases r <;> exact q5.elim
      | returned v => exact hsteps.trans q6
      | panicked ch => exact hsteps.trans q6
    unfold exitF at ho2
    split at ho2
    · rename_i hex
      rw [hex] at g1
      exact out none { fat b a1 [] with mode := .returning } ho2 rfl rfl (fun v hv => by cases hv) rfl rfl rfl (Steps.trans g1 (.one (st_end rfl)))
    · rename_i hex
      rw [hex] at g1
      obtain ⟨k0, g1⟩ := g1
      exact out none { fat b a1 (.code .ret :: k0) with mode := .returning } ho2 rfl rfl (fun v hv => by cases hv) rfl rfl rfl (Steps.trans g1 (.one (st_ret rfl)))
    · rename_i v hex
      rw [hex] at g1 l1
      obtain ⟨k0, g1⟩ := g1
      exact out (some v) { fat b a1 k0 with mode := .panicking [{ v := conc β1 v, recovered := false }] } ho2 rfl rfl (fun u hu => by cases hu; exact l1) rfl rfl rfl g1
    · cases ho2
theorem funcA_ok (hm : P.follows .mixedOrders = true) (hT : TabOK P T) (hc : FuncOK P T call) (hy : YieldOK P yield) (depth : Nat) {f : FuncId} {args : List AV} {h : AH} {nx : Nat} {outs : List OutF}
    (hr : funcA T depth call yield f args h nx = some outs) : Fact P T f args h nx outs := by
  unfold funcA at hr
  split at hr
  · cases hr
  · rename_i fn hfn
    split at hr
    · cases hr
    · rename_i c hbody
      split at hr
      · cases hr
      · rename_i hble
        split at hr
        · cases hr
        · rename_i outs1 hcode
          exact func_ok hT hc hfn hbody (fun w0 b hx => codeA_ok hm hT hc hy hx depth c) hble hcode hr

/-! ### Calls that are known already -/
structure Known where
  f : FuncId
  args : List AV
  h : AH
  nx : Nat
  outs : List OutF

noncomputable def findK (l : List Known) (f : FuncId) (args : List AV) (h : AH) (nx : Nat) : Option (List OutF) :=
  lrec none (fun k _ r => match Nat.beq k.f f with
    | false => r
    | true => match Nat.beq k.nx nx with
      | false => r
      | true => match eqL beqV k.args args with
        | false => r
        | true => match beqAH k.h h with
          | false => r
          | true => some k.outs) l
theorem findK_cons (k : Known) (l : List Known) (f : FuncId) (args : List AV) (h : AH) (nx : Nat) : findK (k :: l) f args h nx = match Nat.beq k.f f with
    | false => findK l f args h nx
    | true => match Nat.beq k.nx nx with
      | false => findK l f args h nx
      | true => match eqL beqV k.args args with
        | false => findK l f args h nx
        | true => match beqAH k.h h with
          | false => findK l f args h nx
          | true => some k.outs := rfl
def AllK (P : Program) (T : Tab) (l : List Known) : Prop := ∀ k ∈ l, Fact P T k.f k.args k.h k.nx k.outs
theorem findK_ok : ∀ {l : List Known}, AllK P T l → ∀ {f : FuncId} {args : List AV} {h : AH} {nx : Nat} {outs : List OutF}, findK l f args h nx = some outs → Fact P T f args h nx outs := by
  intro l
  induction l with
  | nil => intro _ f args h nx outs hf; cases hf
  | cons k l ih =>
    intro hl f args h nx outs hf
    have ih := ih (fun k hk => hl k (by simp [hk])) (f := f) (args := args) (h := h) (nx := nx) (outs := outs)
    rw [findK_cons] at hf
    split at hf
    · exact ih hf
    · rename_i h1
      split at hf
      · exact ih hf
      · rename_i h2
        split at hf
        · exact ih hf
        · rename_i h3
          split at hf
          · exact ih hf
          · rename_i h4
            simp only [Option.some.injEq] at hf; subst hf
            have e1 := nat_ok _ _ h1
            have e2 := nat_ok _ _ h2
            have e3 := eqL_ok beqV_ok _ _ h3
            have e4 := beqAH_ok _ _ h4
            rw [← e1, ← e2, ← e3, ← e4]
            exact hl k (by simp)

/-- A call, out of what is known already or run. -/
noncomputable def callK (T : Tab) (l : List Known) (depth : Nat) (n : Nat) : Bool → CallT :=
  nrec (fun _ _ _ _ _ => none) (fun _ ih b f args h nx => match b with
    | false => match findK l f args h nx with
      | some outs => some outs
      | none => funcA T depth (ih false) (ih true) f args h nx
    | true => roundA T depth (ih false) (ih true) f args h nx) n
theorem callK_false (l : List Known) (depth n : Nat) (f : FuncId) (args : List AV) (h : AH) (nx : Nat) : callK T l depth (n + 1) false f args h nx = match findK l f args h nx with
      | some outs => some outs
      | none => funcA T depth (callK T l depth n false) (callK T l depth n true) f args h nx := rfl
theorem callK_true (l : List Known) (depth n : Nat) : callK T l depth (n + 1) true = roundA T depth (callK T l depth n false) (callK T l depth n true) := rfl

theorem callK_ok (hm : P.follows .mixedOrders = true) (hT : TabOK P T) {l : List Known} (hl : AllK P T l) (depth : Nat) : ∀ n, FuncOK P T (callK T l depth n false) ∧ YieldOK P (callK T l depth n true) := by
  intro n
  induction n with
  | zero =>
    exact ⟨(fun f args h nx outs hr => by cases hr), (fun f args h nx outs hr => by cases hr)⟩
  | succ n ih =>
    refine ⟨?_, ?_⟩
    · intro f args h nx outs hr
      rw [callK_false] at hr
      split at hr
      · rename_i o ho
        simp only [Option.some.injEq] at hr; subst hr
        exact findK_ok hl ho
      · exact funcA_ok hm hT ih.1 ih.2 depth hr
    · rw [callK_true]; exact roundA_ok hm hT ih.1 ih.2 depth

/-- A piece of the run. -/
theorem piece_ok (hm : P.follows .mixedOrders = true) (hT : TabOK P T) {l : List Known} (hl : AllK P T l) (depth n : Nat) {f : FuncId} {args : List AV} {h : AH} {nx : Nat} {outs : List OutF}
    (hr : callK T l depth n false f args h nx = some outs) : Fact P T f args h nx outs := (callK_ok hm hT hl depth n).1 f args h nx outs hr
end
end Go.Abs
