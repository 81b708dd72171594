/- The end of a call: results, and what was deferred. -/
import Derived.Test.YtbbepcgjinfljaaGreatDoorAbsZ1
import Derived.Defers
import Derived.Laws.Sem
namespace Go.Abs
open Go.RowKit

section
variable {P : Program} {T : Tab} {call yield : CallT} {w0 : World}

theorem run_mapM_list {α γ : Type} (f : α → Sem γ) {w : World} : ∀ (xs : List α) (vs : List γ), vs.length = xs.length → (∀ (j : Nat) (x : α), xs[j]? = some x → ∃ v, vs[j]? = some v ∧ (f x).run P w = .ok v w) → (xs.mapM f).run P w = .ok vs w := by
  intro xs
  induction xs with
  | nil =>
    intro vs hl _
    have : vs = [] := List.eq_nil_of_length_eq_zero (by simpa using hl)
    subst this
    simp
  | cons x r ih =>
    intro vs hl hf
    cases vs with
    | nil => simp at hl
    | cons v vs =>
      obtain ⟨v', h1, h2⟩ := hf 0 x rfl
      simp only [List.getElem?_cons_zero, Option.some.injEq] at h1; subst h1
      have hr := ih vs (by simpa using hl) fun j y hy => by
        obtain ⟨u, h3, h4⟩ := hf (j + 1) y (by simpa using hy)
        exact ⟨u, by simpa using h3, h4⟩
      rw [List.mapM_cons, Sem.run_bind, h2, Result.andThen_ok, Sem.run_bind, hr, Result.andThen_ok, Sem.run_pure]
theorem run_mapM {α γ : Type} (f : α → Sem γ) (xs : Array α) (vs : List γ) {w : World} (hl : vs.length = xs.size) (hf : ∀ (j : Nat) (x : α), xs[j]? = some x → ∃ v, vs[j]? = some v ∧ (f x).run P w = .ok v w) :
    (xs.mapM f).run P w = .ok vs.toArray w := by
  rw [Array.mapM_eq_mapM_toList, map_eq_pure_bind, Sem.run_bind, run_mapM_list f xs.toList vs (by simpa using hl) (fun j x hx => hf j x (by simpa using hx)), Result.andThen_ok, Sem.run_pure]

theorem resultsA_cons (st : ASt) (x : ResultVar) (r : List ResultVar) : resultsA T st (x :: r) = match resultsA T st r with
    | none => none
    | some l => match x with
      | .tmp t => match st.get t with
        | some v => some (v :: l)
        | none => none
      | .cell a t => match st.get a with
        | some (.ptr id off) => match T.ty t with
          | some i => match st.heap.load id off i with
            | some v => some (v :: l)
            | none => none
          | none => none
        | _ => none := rfl

/-- One result. -/
def resOne (tmps : Array Value) : ResultVar → Sem Value
  | .tmp t => pure (tmps.getD t undef)
  | .cell a t => do loadVar t (← asAddr (tmps.getD a undef))

theorem resultsA_ok (hT : TabOK P T) {β : Beta} {st : ASt} {tmps : Array Value} {w : World} (H : WR w0 β st.heap st.nx w) (hR : RowsR β st.nx st.rows tmps) : ∀ (xs : List ResultVar) (l : List AV), resultsA T st xs = some l →
    l.length = xs.length ∧ ltL st.nx l ∧ ∀ (j : Nat) (x : ResultVar), xs[j]? = some x → ∃ v, (concL β l)[j]? = some v ∧ (resOne tmps x).run P w = .ok v w := by
  intro xs
  induction xs with
  | nil =>
    intro l h
    have h : some ([] : List AV) = some l := h
    simp only [Option.some.injEq] at h; subst h
    exact ⟨rfl, (fun v hv => by cases hv), (fun j x hx => by simp at hx)⟩
  | cons x r ih =>
    intro l h
    rw [resultsA_cons] at h
    cases hr : resultsA T st r with
    | none => rw [hr] at h; cases h
    | some l1 =>
      rw [hr] at h
      obtain ⟨i1, i2, i3⟩ := ih l1 hr
      have fin : ∀ v : AV, v.lt st.nx → (resOne tmps x).run P w = .ok (conc β v) w → some (v :: l1) = some l → l.length = (x :: r).length ∧ ltL st.nx l ∧ ∀ (j : Nat) (y : ResultVar), (x :: r)[j]? = some y → ∃ v, (concL β l)[j]? = some v ∧ (resOne tmps y).run P w = .ok v w := by
        intro v hv hrun h
        simp only [Option.some.injEq] at h; subst h
        refine ⟨by simp [i1], ?_, ?_⟩
        · intro u hu
          rcases List.mem_cons.1 hu with rfl | hu
          · exact hv
          · exact i2 u hu
        · intro j y hy
          cases j with
          | zero => simp at hy; subst hy; exact ⟨_, by simp [concL], hrun⟩
          | succ j =>
            obtain ⟨v', h1, h2⟩ := i3 j y (by simpa using hy)
            exact ⟨v', by simpa [concL] using h1, h2⟩
      cases x with
      | tmp t =>
        simp only at h
        cases hg : st.get t with
        | none => rw [hg] at h; cases h
        | some v =>
          rw [hg] at h
          obtain ⟨q1, q2⟩ := hR t v hg
          exact fin v q1 (by simp only [resOne, Sem.run_pure, q2]) h
      | cell a t =>
        simp only at h
        split at h
        · rename_i id off hg
          split at h
          · rename_i i hi
            split at h
            · rename_i v hv
              obtain ⟨q1, q2⟩ := hR a _ hg
              obtain ⟨q3, q4⟩ := load_ok (P := P) H (hT.ty t i hi) hv
              exact fin v q4 (by
                simp only [resOne, q2, conc, asAddr, Sem.run_bind, Sem.run_pure, Result.andThen_ok]
                exact q3) h
            · cases h
          · cases h
        · cases h

theorem results_ok (hT : TabOK P T) {β : Beta} {st : ASt} {tmps : Array Value} {w : World} (H : WR w0 β st.heap st.nx w) (hR : RowsR β st.nx st.rows tmps) {fn : Func} {l : List AV} (h : resultsA T st fn.results.toList = some l) :
    (results fn tmps).run P w = .ok (conc β (one l)) w ∧ (one l).lt st.nx := by
  obtain ⟨h1, h2, h3⟩ := resultsA_ok hT H hR _ _ h
  have hm : (fn.results.mapM (resOne tmps)).run P w = .ok (concL β l).toArray w := run_mapM _ _ _ (by simp [concL_map, h1]) fun j x hx => h3 j x (by simpa using hx)
  constructor
  · have e : results fn tmps = (do
        let vs ← fn.results.mapM (resOne tmps)
        pure (if h : vs.size = 1 then vs[0] else .tuple vs)) := by
      unfold results
      congr 1
    rw [e, Sem.run_bind, hm, Result.andThen_ok, Sem.run_pure]
    congr 1
    match l with
    | [] => simp [concL, one, conc]
    | [v] => simp [concL, one]
    | v :: u :: r => simp [concL, one, conc]
  · match l, h2 with
    | [], _ => exact lt_noids rfl _
    | [v], h2 => exact h2 v (by simp)
    | v :: u :: r, h2 =>
      intro i hi
      obtain ⟨x, hx, hi⟩ := idsL_mem.1 (show i ∈ AV.idsL (v :: u :: r) from hi)
      exact h2 x hx i hi

/-! ### A deferred closure that takes what is thrown -/
theorem catcher_ok {gf : Func} {s t : Nat} (h : catcher gf = some (s, t)) : ∃ rid ops p q c d t1, gf.body = some (.region rid ops false) ∧ ops = #[p, q] ∧ p.dst = some t1 ∧ p.op = .call c ∧ c.callee = .builtin .recover ∧
    q.op = .call d ∧ d.callee = .value (.func s) ∧ d.args = #[.tmp t1, .tmp t] ∧ p.guard = none ∧ q.guard = none ∧ gf.results = #[] ∧ t1 < gf.ntmps ∧ 0 < t1 := by
  unfold catcher at h
  split at h
  · rename_i rid ops hbody
    split at h
    · rename_i p q hops
      unfold catches at h
      split at h
      · rename_i t1 hdst
        split at h
        · rename_i c hop
          split at h
          · rename_i hcal
            split at h
            · rename_i hargs
              split at h
              · rename_i d hqop
                split at h
                · rename_i g hdcal
                  split at h
                  · rename_i a b hdargs
                    split at h
                    · rename_i hb
                      simp only [Bool.and_eq_true, nbeq, decide_eq_true_eq] at hb
                      obtain ⟨⟨⟨⟨⟨b1, b2⟩, b3⟩, b4⟩, b5⟩, b6⟩ := hb
                      simp only [Option.some.injEq, Prod.mk.injEq] at h
                      obtain ⟨rfl, rfl⟩ := h
                      subst b1
                      rw [Nat.blt_eq] at b5 b6
                      refine ⟨rid, ops, p, q, c, d, a, hbody, by apply Array.ext'; simpa using hops, hdst, hop, hcal, hqop, hdcal, by apply Array.ext'; simpa using hdargs, ?_, ?_, ?_, b5, b6⟩
                      · simpa using b2
                      · simpa using b3
                      · have : gf.results.toList = [] := by simpa using b4
                        simpa using this
                    · cases h
                  · cases h
                · cases h
              · cases h
            · cases h
          · cases h
        · cases h
      · cases h
    · cases h
  · cases h

theorem run_recover {o : Oper} {c : Call} (ho : o.op = .call c) (hc : c.callee = .builtin .recover) (ρ : Operand → Value) (w : World) : (execOp ρ o).run P w = .ok .recover w := by
  simp only [execOp, ho, resolve, hc, Sem.run_bind, Sem.run_pure, Result.andThen_ok, invoke, builtin]

def modeOf (β : Beta) : Option AV → FrameMode
  | none => .returning
  | some v => .panicking [{ v := conc β v, recovered := false }]
/-- Behind recover. -/
def modeR (β : Beta) : Option AV → FrameMode
  | none => .returning
  | some v => .panicking [{ v := conc β v, recovered := true }]
def thrown : Option AV → AV
  | none => .niliface
  | some v => v

theorem st_recover {b : Frame} {a : Act} {k : List Item} {cs : List Frame} {w : World} {ops : Array Oper} {i : Nat} {rest : List Nat} {o : Oper} {c : Call} (hk : b.kind = .deferred) (hro : b.roundOf = none)
    (hoi : ops[i]? = some o) (hg : o.guard = none) (ho : o.op = .call c) (hc : c.callee = .builtin .recover) {β : Beta} {p : Option AV} {cf : Frame} (hcf : cf.mode = modeOf β p) :
    step P (lone (fat b a (.inRegion ops (i :: rest) :: k)) (cf :: cs) w) =
      .next (lone (fat b (a.put o.dst (conc β (thrown p))) (.inRegion ops rest :: k)) ({ cf with mode := modeR β p } :: cs) w) := by
  have e : (ops[i]?).bind (·.dst) = o.dst := by rw [hoi]; rfl
  rw [← e, ← fat_finish]
  refine step_lone_go ?_
  rw [stepG_fat hoi (by simp [Region.wanted, hg]) (.inl hro)]
  have hr := run_recover (P := P) ho hc (evC a.tmps) w
  cases p with
  | none =>
    have hcf : cf.mode = .returning := hcf
    have h1 : ({ cf with mode := modeR β none } : Frame) = cf := by
      cases cf; simp only at hcf; subst hcf; rfl
    rw [h1]
    simp [stepG.apply, hr, fat, hro, tryRecover, hk, hcf, thrown, conc]
  | some v =>
    have hcf : cf.mode = .panicking [{ v := conc β v, recovered := false }] := hcf
    simp [stepG.apply, hr, fat, hro, tryRecover, hk, hcf, thrown, modeR]

theorem put_defers (a : Act) (d : Option Tmp) (v : Value) : (a.put d v).defers = a.defers := by cases d <;> rfl
theorem settle_modeR (β : Beta) (p : Option AV) : settle (modeR β p) = .returning := by cases p <;> rfl

theorem catch_ok (hT : TabOK P T) (hc : FuncOK P T call) {g s : Nat} {gf : Func} (hgf : T.fn g = some gf) (hcat : catcher gf = some (s, 0)) {e : AV} {p : Option AV} {h : AH} {nx : Nat} {outs : List OutF}
    (hcall : call s [thrown p, e] h nx = some outs) {β : Beta} {w : World} (H : WR w0 β h nx w) (hl : ltL nx [thrown p, e]) {fr : Frame} {cs : List Frame} {ds : List Deferred} (hmode : fr.mode = modeOf β p)
    (hdef : fr.defers = { target := .fn (.func g) (concL β [e]).toArray, args := #[] } :: ds) (hret : ∀ x ∈ outs, ∃ v, x.1 = .ret v) :
    ∃ x ∈ outs, ∃ β' w', Ext nx β β' ∧ nx ≤ x.2.2 ∧ WR w0 β' x.2.1 x.2.2 w' ∧ Steps P (lone fr cs w) (lone { fr with defers := ds, mode := .returning } cs w') := by
  obtain ⟨rid, ops, o1, o2, c, d, t1, hbody, rfl, hdst, hop1, hcal1, hop2, hcal2, hargs, hg1, hg2, hres, hlt, hpos⟩ := catcher_ok hcat
  have hinv : (invoke (.fn (.func g) (concL β [e]).toArray) #[]).run P w = .ok (.enter g #[conc β e]) w := by
    simp only [invoke]
    rw [callFunc_ok hT hgf (by rw [hbody]; rfl)]
    simp [concL]
  have h1 := step_defer (P := P) (cs := cs) (w := w) (fr := fr) (by rw [hmode]; cases p <;> simp [modeOf]) hdef rfl hinv
  let b : Frame := { (default : Frame) with fn := g, kind := .deferred, roundOf := none }
  let a0 : Act := { tmps := #[conc β e] ++ Array.replicate (gf.ntmps - 1) undef, defers := [] }
  have hfn := hT.fn g gf hgf
  have henter : Frame.enter P g #[conc β e] .deferred = fat b a0 [.code (.region rid #[o1, o2] false)] := by
    simp [Frame.enter, fat, hfn.1, hbody, b, a0]
  rw [henter] at h1
  have h2 := st_region (P := P) (b := b) (a := a0) (k := []) (cs := { fr with defers := ds } :: cs) (w := w) (ops := #[o1, o2]) (id := rid)
  have h3 := st_recover (P := P) (b := b) (a := a0) (k := []) (cs := cs) (w := w) (ops := #[o1, o2]) (i := 0) (rest := [1]) (o := o1) rfl rfl rfl hg1 hop1 hcal1 (β := β) (p := p) (cf := { fr with defers := ds }) hmode
  let a1 : Act := a0.put o1.dst (conc β (thrown p))
  have hnz : 0 < gf.ntmps := Nat.lt_of_le_of_lt (Nat.zero_le _) hlt
  have hsz0 : a0.tmps.size = gf.ntmps := by simp [a0]; omega
  have ev1 : evC a1.tmps (.tmp t1) = conc β (thrown p) := by
    simp only [evC, a1, Act.put, hdst]
    rw [Array.getD_eq_getD_getElem?, Array.getElem?_setIfInBounds_self_of_lt (by rw [hsz0]; exact hlt)]
    rfl
  have ev0 : evC a1.tmps (.tmp 0) = conc β e := by
    simp only [evC, a1, Act.put, hdst]
    rw [Array.getD_eq_getD_getElem?, Array.getElem?_setIfInBounds_ne (Nat.ne_of_gt hpos)]
    show ((#[conc β e] ++ Array.replicate (gf.ntmps - 1) undef)[0]?).getD undef = conc β e
    rw [Array.getElem?_append_left (by simp)]
    rfl
  obtain ⟨⟨sf, hsf, hsbody⟩, hC⟩ := hc _ _ _ _ _ hcall
  have hr2 : (execOp (evC a1.tmps) o2).run P w = .ok (.enter s (concL β [thrown p, e]).toArray) w := by
    have em : d.args.map (evC a1.tmps) = #[conc β (thrown p), conc β e] := by rw [hargs]; simp [ev1, ev0]
    simp only [execOp, hop2, resolve, hcal2, Sem.run_bind]
    have hf : evC a1.tmps (.func s) = .func (.func s) #[] #[] := rfl
    simp only [hf, em, Deferred.ofValue, Sem.run_pure, Result.andThen_ok, invoke]
    rw [callFunc_ok hT hsf hsbody]
    simp [concL]
  have hw2 : Region.wanted o2 (yielded #[o1, o2] a1.tmps) = true := by simp [Region.wanted, hg2]
  have h4 := st_enter (P := P) (b := b) (a := a1) (k := []) (cs := { { fr with defers := ds } with mode := modeR β p } :: cs) (ops := #[o1, o2]) (i := 1) (rest := []) (o := o2) rfl hw2 (.inl rfl) hr2
  obtain ⟨en, w', fr2, ⟨x, hx, β', he, hn, hW, hlv, hR⟩, hcomes, hfrf, hleav⟩ := hC w0 β w H hl (fat b a1 (.inRegion #[o1, o2] [1] :: []) :: { { fr with defers := ds } with mode := modeR β p } :: cs)
  obtain ⟨v, hv⟩ := hret x hx
  rw [hv] at hR
  cases en with
  | panicked ch => exact hR.elim
  | outgrown => exact hR.elim
  | returned cv =>
    refine ⟨x, hx, β', w', he, hn, hW, ?_⟩
    have h5 := step_leave_returned (c := fat b a1 (.inRegion #[o1, o2] [1] :: [])) (cs := { { fr with defers := ds } with mode := modeR β p } :: cs) hleav
    rw [fat_finish] at h5
    have h6 := st_region_end (P := P) (b := b) (a := a1.put (((#[o1, o2] : Array Oper)[1]?).bind (·.dst)) cv) (k := []) (cs := { { fr with defers := ds } with mode := modeR β p } :: cs) (w := w') (ops := #[o1, o2])
    have h7 : step P (lone (fat b (a1.put (((#[o1, o2] : Array Oper)[1]?).bind (·.dst)) cv) []) ({ { fr with defers := ds } with mode := modeR β p } :: cs) w') =
        .next (lone { fat b (a1.put (((#[o1, o2] : Array Oper)[1]?).bind (·.dst)) cv) [] with mode := .returning } ({ { fr with defers := ds } with mode := modeR β p } :: cs) w') :=
      step_lone_go (by simp [stepG, stepG.exec, fat, b])
    have hgo : ({ fat b (a1.put (((#[o1, o2] : Array Oper)[1]?).bind (·.dst)) cv) [] with mode := .returning } : Frame).going P w' (.returned (.tuple #[])) := by
      refine ⟨rfl, ?_, gf, hfn.1, ?_⟩
      · show (a1.put (((#[o1, o2] : Array Oper)[1]?).bind (·.dst)) cv).defers = []
        rw [put_defers]
        show (a0.put o1.dst (conc β (thrown p))).defers = []
        rw [put_defers]
      · unfold results
        rw [Sem.run_bind, run_mapM (P := P) _ gf.results [] (by simp [hres]) (fun j x hx => by simp [hres] at hx)]
        simp
    have h8 := step_going_returned (c := { { fr with defers := ds } with mode := modeR β p }) (cs := cs) (by rfl) hgo
    rw [settle_modeR] at h8
    exact (Steps.head h1 (.head h2 (.head h3 (.head h4 hcomes)))).trans (.head h5 (.head h6 (.head h7 (.one h8))))
end
end Go.Abs
