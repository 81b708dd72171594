/- Regions on the machine: operations one after the other. -/
import Derived.Test.YtbbepcgjinfljaaGreatDoorAbsO
namespace Go.Abs
open Go.RowKit

/-! ### Slots -/
theorem getV_eq : ∀ (l : List OV) (n : Nat), getV l n = (l[n]?).getD none := by
  intro l
  induction l with
  | nil => intro n; rfl
  | cons a r ih => intro n; cases n with
    | zero => rfl
    | succ n => exact (ih n).trans (by simp)
theorem getRow_eq : ∀ (rows : List (List OV)) (q m : Nat), getRow rows q m = ((rows[q]?).bind fun r => (r[m]?)).getD none := by
  intro rows
  induction rows with
  | nil => intro q m; rfl
  | cons r t ih => intro q m; cases q with
    | zero => exact getV_eq r m
    | succ q => exact (ih q m).trans (by simp)
theorem setV_eq : ∀ (l : List OV) (n : Nat) (v : OV), setV l n v = l.set n v := by
  intro l
  induction l with
  | nil => intro n v; rfl
  | cons a r ih => intro n v; cases n with
    | zero => rfl
    | succ n => exact congrArg (a :: ·) (ih n v)
theorem setRow_eq : ∀ (rows : List (List OV)) (q m : Nat) (v : OV), setRow rows q m v = rows.modify q fun r => r.set m v := by
  intro rows
  induction rows with
  | nil => intro q m v; cases q <;> rfl
  | cons r t ih => intro q m v; cases q with
    | zero => exact congrArg (· :: t) (setV_eq r m v)
    | succ q => exact congrArg (r :: ·) (ih q m v)
theorem rget_eq (rows : List (List OV)) (t : Nat) : rget rows t = ((rows[t / 8]?).bind fun r => (r[t % 8]?)).getD none := getRow_eq rows (t / 8) (t % 8)
theorem rset_get (rows : List (List OV)) (t : Nat) (v : OV) (q : Nat) : (rset rows t v)[q]? = if t / 8 = q then rows[q]?.map (fun r => r.set (t % 8) v) else rows[q]? := by
  have h : rset rows t v = rows.modify (t / 8) fun r => r.set (t % 8) v := setRow_eq rows (t / 8) (t % 8) v
  rw [h, List.getElem?_modify]
  split
  · rfl
  · cases rows[q]? <;> rfl

theorem rget_rset {rows : List (List OV)} {d t : Nat} {v : OV} {u : AV} (h : rget (rset rows d v) t = some u) : (t = d ∧ v = some u) ∨ (t ≠ d ∧ rget rows t = some u) := by
  rw [rget_eq, rset_get] at h
  by_cases hq : d / 8 = t / 8
  · rw [if_pos hq] at h
    cases hr : rows[t / 8]? with
    | none => rw [hr] at h; cases h
    | some r =>
      rw [hr] at h
      simp only [Option.map_some, Option.bind_some, List.getElem?_set] at h
      by_cases hm : d % 8 = t % 8
      · have : t = d := by omega
        subst this
        simp only [if_true] at h
        split at h
        · exact .inl ⟨rfl, by simpa using h⟩
        · cases h
      · rw [if_neg hm] at h
        refine .inr ⟨fun h => hm (by rw [h]), ?_⟩
        rw [rget_eq, hr]; simpa using h
  · rw [if_neg hq] at h
    refine .inr ⟨fun h => hq (by rw [h]), ?_⟩
    rw [rget_eq]; exact h

theorem force_eq (w : AV) (k : AV → ASt) : w.force k = k w := by
  cases w <;> try rfl
  case bool b => cases b <;> rfl
  case int j n => cases n <;> rfl
theorem set_eq (st : ASt) (d : Nat) (v : OV) : st.set d v = st.set1 d v := by
  cases v with
  | none => rfl
  | some w => exact force_eq w fun w => st.set1 d (some w)

theorem put_fields (st : ASt) (dst : Option Tmp) (v : OV) : (st.put dst v).n = st.n ∧ (st.put dst v).heap = st.heap ∧ (st.put dst v).nx = st.nx ∧ (st.put dst v).defers = st.defers := by
  cases dst with
  | none => exact ⟨rfl, rfl, rfl, rfl⟩
  | some d =>
    simp only [ASt.put, set_eq, ASt.set1_eq]
    split <;> exact ⟨rfl, rfl, rfl, rfl⟩

theorem SR.put {w0 : World} {β : Beta} {st : ASt} {a : Act} {w : World} (H : SR w0 β st a.tmps a.defers w) (dst : Option Tmp) {v : OV} {cv : Value} (hv : ∀ av, v = some av → av.lt st.nx ∧ cv = conc β av) :
    SR w0 β (st.put dst v) (a.put dst cv).tmps (a.put dst cv).defers w := by
  cases dst with
  | none => exact H
  | some d =>
    simp only [ASt.put, set_eq, ASt.set1_eq, Act.put]
    split
    · rename_i hlt
      have hlt : d < st.n := by simpa [Nat.blt_eq] using hlt
      refine ⟨H.wr, by simpa using H.size, ?_, H.dlt, H.df⟩
      intro t u hu
      rcases rget_rset hu with ⟨rfl, hvu⟩ | ⟨hne, hu⟩
      · obtain ⟨h1, h2⟩ := hv u hvu
        refine ⟨h1, ?_⟩
        have : t < a.tmps.size := by rw [H.size]; exact hlt
        simp [this, h2]
      · obtain ⟨h1, h2⟩ := H.rows t u hu
        refine ⟨h1, ?_⟩
        rw [← h2]
        simp only [Array.getD_eq_getD_getElem?]
        rw [Array.getElem?_setIfInBounds_ne (Ne.symm hne)]
    · rename_i hlt
      have hge : ¬ d < a.tmps.size := by
        rw [H.size]
        intro h
        have h2 : Nat.blt d st.n = true := by simpa [Nat.blt_eq] using h
        rw [hlt] at h2; cases h2
      have : a.tmps.setIfInBounds d cv = a.tmps := by
        apply Array.ext_getElem?
        intro i
        rw [Array.getElem?_setIfInBounds]
        by_cases hi : d = i
        · subst hi; rw [if_pos rfl, if_neg hge, Array.getElem?_eq_none (Nat.le_of_not_lt hge)]
        · rw [if_neg hi]
      rw [this]; exact H

/-! ### Where code may lead -/
def ExLt (n : Nat) : Ex → Prop
  | .panic v => v.lt n
  | _ => True
def Goes (P : Program) (b : Frame) (cs : List Frame) (m : Machine) (k : List Item) (β : Beta) : Ex → Act → World → Prop
  | .normal, a, w => Steps P m (lone (fat b a k) cs w)
  | .exit id, a, w => ∃ k0, exitTo id k0 = exitTo id k ∧ Steps P m (lone (fat b a (.code (.exit id) :: k0)) cs w)
  | .ret, a, w => ∃ k0, Steps P m (lone (fat b a (.code .ret :: k0)) cs w)
  | .panic v, a, w => ∃ k0, Steps P m (lone { fat b a k0 with mode := .panicking [{ v := conc β v, recovered := false }] } cs w)
theorem Goes.of_steps {P : Program} {b : Frame} {cs : List Frame} {m m' : Machine} {k : List Item} {β : Beta} {e : Ex} {a : Act} {w : World} (h : Steps P m m') (g : Goes P b cs m' k β e a w) : Goes P b cs m k β e a w := by
  cases e with
  | normal => exact h.trans g
  | exit id => obtain ⟨k0, h1, h2⟩ := g; exact ⟨k0, h1, h.trans h2⟩
  | ret => obtain ⟨k0, h2⟩ := g; exact ⟨k0, h.trans h2⟩
  | panic v => obtain ⟨k0, h2⟩ := g; exact ⟨k0, h.trans h2⟩

def Out (P : Program) (b : Frame) (cs : List Frame) (k : List Item) (m : Machine) (w0 : World) (nx : Nat) (β : Beta) (outs : List OutC) : Prop :=
  ∃ x ∈ outs, ∃ β' a' w', Ext nx β β' ∧ nx ≤ x.2.nx ∧ SR w0 β' x.2 a'.tmps a'.defers w' ∧ ExLt x.2.nx x.1 ∧ Goes P b cs m k β' x.1 a' w'
theorem Out.weaken {P : Program} {b : Frame} {cs : List Frame} {k : List Item} {m m' : Machine} {w0 : World} {nx nx' : Nat} {β β' : Beta} {outs outs' : List OutC}
    (h : Out P b cs k m' w0 nx' β' outs') (hs : Steps P m m') (he : Ext nx β β') (hn : nx ≤ nx') (hsub : ∀ x ∈ outs', x ∈ outs) : Out P b cs k m w0 nx β outs := by
  obtain ⟨x, hx, β2, a', w', h1, h2, h3, h4, h5⟩ := h
  exact ⟨x, hsub x hx, β2, a', w', he.trans h1 hn, Nat.le_trans hn h2, h3, h4, h5.of_steps hs⟩

theorem goL_cons {α γ : Type} (f : α → Option (List γ)) (a : α) (t : List α) : goL f (a :: t) = match f a with
    | none => none
    | some x => match t with
      | [] => some x
      | _ :: _ => match goL f t with
        | none => none
        | some y => some (appR x y) := rfl
theorem goL_ok {α γ : Type} {f : α → Option (List γ)} : ∀ {l : List α} {r : List γ}, goL f l = some r → ∀ a ∈ l, ∃ x, f a = some x ∧ ∀ y ∈ x, y ∈ r := by
  intro l
  induction l with
  | nil => intro r _ a ha; cases ha
  | cons a t ih =>
    intro r h b hb
    rw [goL_cons] at h
    split at h
    · cases h
    · rename_i x hx
      split at h
      · simp only [Option.some.injEq] at h; subst h
        simp only [List.mem_singleton] at hb; subst hb
        exact ⟨x, hx, fun y hy => hy⟩
      · split at h
        · cases h
        · rename_i y hy
          simp only [Option.some.injEq] at h; subst h
          rw [appR_eq]
          rcases List.mem_cons.1 hb with rfl | hb
          · exact ⟨x, hx, fun u hu => List.mem_append.2 (.inl hu)⟩
          · obtain ⟨z, hz, hs⟩ := ih hy b hb
            exact ⟨z, hz, fun u hu => List.mem_append.2 (.inr (hs u hu))⟩

/-! ### Calls -/
def ResR (β : Beta) : Res → Ending → Prop
  | .ret v, .returned cv => cv = conc β v
  | .panic v, .panicked chain => chain = [{ v := conc β v, recovered := false }]
  | _, _ => False
def FuncOK (P : Program) (T : Tab) (call : CallT) : Prop := ∀ f args h nx outs, call f args h nx = some outs →
  (∃ fn, T.fn f = some fn ∧ fn.body.isSome = true) ∧
  ∀ w0 β w, WR w0 β h nx w → ltL nx args → Calls P f (concL β args).toArray w fun e w' =>
    ∃ x ∈ outs, ∃ β', Ext nx β β' ∧ nx ≤ x.2.2 ∧ WR w0 β' x.2.1 x.2.2 w' ∧ x.1.v.lt x.2.2 ∧ ResR β' x.1 e
def YieldOK (P : Program) (yield : CallT) : Prop := ∀ l args h nx outs, yield l args h nx = some outs → ∀ w0 β w, WR w0 β h nx w → ltL nx args →
  ∃ L F tm as bo, (Instr.yield (β l).b (concL β args).toArray).run P w = .ok (.round L F tm as bo) w ∧
    ∀ c cs, ∃ x ∈ outs, ∃ β' w' v, x.1 = .ret v ∧ Ext nx β β' ∧ nx ≤ x.2.2 ∧ WR w0 β' x.2.1 x.2.2 w' ∧ v.lt x.2.2 ∧
      Steps P (lone (Frame.round L F tm as bo .normal) (c :: cs) w) (lone (c.finish (conc β' v)) cs w')

theorem conc_bool {β : Beta} {v : AV} {c : Bool} (h : conc β v = .bool c) : v = .bool c := by
  cases v <;> simp only [conc] at h <;> first
    | (cases h; rfl)
    | (cases h; done)
    | (split at h <;> cases h)

theorem want_ok {w0 : World} {β : Beta} {st : ASt} {tmps : Array Value} {df : List Deferred} {w : World} (H : SR w0 β st tmps df w) {ops : Array Oper} {o : Oper} {c : Bool} (h : wantA ops.toList o st = some c) :
    Region.wanted o (yielded ops tmps) = c := by
  unfold wantA at h
  unfold Region.wanted
  split at h
  · rename_i hg; rw [hg]; simpa using h
  · rename_i g hg
    rw [hg]
    obtain ⟨j, want⟩ := g
    simp only at h ⊢
    rw [getR_eq, Array.getElem?_toList] at h
    split at h
    · rename_i p hp
      split at h
      · rename_i d hd
        split at h
        · rename_i v hv
          obtain ⟨_, hr⟩ := H.rows d v hv
          have hy : yielded ops tmps j = match tmps[d]? with | some (.bool b) => some b | _ => none := by
            unfold yielded; rw [hp]; simp only [Option.bind_some, hd]; rfl
          rw [hy]
          rw [Array.getD_eq_getD_getElem?] at hr
          split at h
          · rename_i y _
            simp only [Option.some.injEq] at h; subst h
            cases ht : tmps[d]? with
            | none => rw [ht] at hr; cases hr
            | some x =>
              rw [ht] at hr; simp only [Option.getD_some, conc] at hr; subst hr
              cases y <;> cases want <;> rfl
          · rename_i hnb
            simp only [Option.some.injEq] at h; subst h
            cases ht : tmps[d]? with
            | none => rfl
            | some x =>
              rw [ht] at hr; simp only [Option.getD_some] at hr
              cases x with
              | bool cc => exact absurd (conc_bool hr.symm) (hnb cc)
              | _ => rfl
        · cases h
      · cases h
    · cases h

/-! ### One operation -/
section
variable {P : Program} {T : Tab} {call yield : CallT} {w0 : World} {b : Frame} {cs : List Frame} {k : List Item} {ops : Array Oper}

theorem SR.retype {β β' : Beta} {st st' : ASt} {tmps : Array Value} {df : List Deferred} {w w' : World} (H : SR w0 β st tmps df w) (he : Ext st.nx β β') (hn : st.nx ≤ st'.nx) (h1 : st'.n = st.n) (h2 : st'.rows = st.rows)
    (h3 : st'.defers = st.defers) (hW : WR w0 β' st'.heap st'.nx w') : SR w0 β' st' tmps df w' := by
  refine ⟨hW, by rw [h1]; exact H.size, by rw [h2]; exact H.rows.ext he hn, ?_, ?_⟩
  · rw [h3]; intro d hd
    have := H.dlt d hd
    cases d with
    | fn f cap => exact this.mono hn
    | coll i => exact Nat.lt_of_lt_of_le this hn
  · rw [h3, H.df]
    refine List.map_congr_left fun d hd => ?_
    have := H.dlt d hd
    cases d with
    | fn f cap => simp only [concD]; rw [he.concL this]
    | coll i => simp only [concD]; rw [he i this]

theorem undef_val {β : Beta} {n : Nat} : ∀ av, some undefA = some av → av.lt n ∧ undef = conc β av := some_val (lt_noids rfl _) rfl

theorem step_cons {m m' m'' : Machine} (h : step P m = .next m') (h' : Steps P m' m'') : Steps P m m'' := .head h h'

theorem behindC_ok {i : Nat} {rest : List Nat} {o : Oper} (hoi : ops[i]? = some o) {a : Act} {β : Beta} {st : ASt} {w : World} (H : SR w0 β st a.tmps a.defers w) {go : ASt → Option (List OutC)}
    (hgo : ∀ st' β' a' w' outs', go st' = some outs' → SR w0 β' st' a'.tmps a'.defers w' → Ext st.nx β β' → st.nx ≤ st'.nx → Out P b cs k (lone (fat b a' (.inRegion ops rest :: k)) cs w') w0 st'.nx β' outs')
    {outsF : List OutF} {x : OutF} (hx : x ∈ outsF) {β' : Beta} (he : Ext st.nx β β') (hn : st.nx ≤ x.2.2) {w' : World} (hW : WR w0 β' x.2.1 x.2.2 w') (hl : x.1.v.lt x.2.2) {outs : List OutC}
    (h : behindC go st o.dst (some outsF) = some outs) (m : Machine)
    (hm : match x.1 with
      | .ret v => Steps P m (lone ((fat b a (.inRegion ops (i :: rest) :: k)).finish (conc β' v)) cs w')
      | .panic v => Steps P m (lone ((fat b a (.inRegion ops (i :: rest) :: k)).raise [{ v := conc β' v, recovered := false }]) cs w')) :
    Out P b cs k m w0 st.nx β outs := by
  simp only [behindC] at h
  obtain ⟨y, hy, hsub⟩ := goL_ok h x hx
  have HS : SR w0 β' { st with heap := x.2.1, nx := x.2.2 } a.tmps a.defers w' := H.retype he hn rfl rfl rfl hW
  obtain ⟨r, h', nx'⟩ := x
  cases r with
  | ret v =>
    simp only at hm hy
    rw [fat_finish] at hm
    have e : (ops[i]?).bind (·.dst) = o.dst := by rw [hoi]; rfl
    rw [e] at hm
    have HP := HS.put (a := a) o.dst (v := some v) (cv := conc β' v) (some_val hl rfl)
    have hf := put_fields ({ st with heap := h', nx := nx' } : ASt) o.dst (some v)
    have ho := hgo _ β' _ w' y hy HP he (by rw [hf.2.2.1]; exact hn)
    exact ho.weaken hm (by rw [hf.2.2.1] at *; exact he) (by rw [hf.2.2.1]; exact hn) hsub
  | panic v =>
    simp only at hm hy
    simp only [Option.some.injEq] at hy; subst hy
    refine ⟨_, hsub _ (List.mem_singleton.2 rfl), β', a, w', he, hn, HS, hl, _, hm⟩

theorem stepA_ok (_hT : TabOK P T) (hc : FuncOK P T call) (hy : YieldOK P yield) {i : Nat} {rest : List Nat} {o : Oper} (hoi : ops[i]? = some o) (hd : b.roundOf = none ∨ isDefer o = false) {a : Act} {β : Beta} {st : ASt} {w : World}
    (H : SR w0 β st a.tmps a.defers w) {go : ASt → Option (List OutC)}
    (hgo : ∀ st' β' a' w' outs', go st' = some outs' → SR w0 β' st' a'.tmps a'.defers w' → Ext st.nx β β' → st.nx ≤ st'.nx → Out P b cs k (lone (fat b a' (.inRegion ops rest :: k)) cs w') w0 st'.nx β' outs')
    (hw : Region.wanted o (yielded ops a.tmps) = true) {s : Step} (hs : StepOK P T w0 β st a.tmps w o s) {outs : List OutC} (h : behindS call yield go o.dst s = some outs) :
    Out P b cs k (lone (fat b a (.inRegion ops (i :: rest) :: k)) cs w) w0 st.nx β outs := by
  cases s with
  | val v st' =>
    obtain ⟨β', w', cv, hr, he, hn, h1, h2, h3, hW, hv⟩ := hs
    have HS := (H.retype he hn h1 h2 h3 hW).put (a := a) o.dst hv
    have hf := put_fields st' o.dst v
    have ho := hgo _ β' _ w' outs h HS he (by rw [hf.2.2.1]; exact hn)
    refine ho.weaken ?_ he (by rw [hf.2.2.1]; exact hn) (fun x hx => hx)
    rcases hr with hr | ⟨hr, rfl⟩
    · exact .one (st_value hoi hw hd hr)
    · exact .one (st_skipped hoi hw hd hr)
  | defer d st' =>
    obtain ⟨rfl, hr, hdl⟩ := hs
    have HS : SR w0 β { st' with defers := d :: st'.defers } a.tmps (concD β d :: a.defers) w :=
      ⟨H.wr, H.size, H.rows, fun e he => (List.mem_cons.1 he).elim (fun h => h ▸ hdl) (H.dlt e), by simp [H.df]⟩
    have HP := SR.put (a := { a with defers := concD β d :: a.defers }) HS o.dst (v := some undefA) (cv := undef) undef_val
    have hf := put_fields ({ st' with defers := d :: st'.defers } : ASt) o.dst (some undefA)
    have ho := hgo _ β _ w outs h HP (Ext.refl _ _) (by rw [hf.2.2.1]; exact Nat.le_refl _)
    exact ho.weaken (.one (st_defer hoi hw hd hr)) (Ext.refl _ _) (by rw [hf.2.2.1]; exact Nat.le_refl _) (fun x hx => hx)
  | panic v st' =>
    obtain ⟨rfl, hr, hl⟩ := hs
    simp only [behindS, Option.some.injEq] at h; subst h
    exact ⟨_, List.mem_singleton.2 rfl, β, a, w, Ext.refl _ _, Nat.le_refl _, H, hl, _, .one (st_panic hoi hw hd hr)⟩
  | enter f args st' =>
    obtain ⟨rfl, hl, hr⟩ := hs
    simp only [behindS] at h
    cases hcall : call f args st'.heap st'.nx with
    | none => rw [hcall] at h; cases h
    | some outsF =>
      rw [hcall] at h
      obtain ⟨⟨fn, hfn, hbody⟩, hC⟩ := hc _ _ _ _ _ hcall
      have hr := hr fn hfn hbody
      obtain ⟨e, w', fr, ⟨x, hx, β', he, hn, hW, hlv, hR⟩, hcomes, hfrf, hleav⟩ := hC w0 β w H.wr hl (fat b a (.inRegion ops (i :: rest) :: k) :: cs)
      refine behindC_ok hoi H hgo hx he hn hW hlv h _ ?_
      obtain ⟨r, h', nx'⟩ := x
      cases r with
      | ret v =>
        cases e with
        | returned cv =>
          simp only [ResR] at hR; subst hR
          exact (Steps.head (st_enter hoi hw hd hr) hcomes).trans (.one (step_leave_returned hleav))
        | panicked ch => exact hR.elim
        | outgrown => exact hR.elim
      | panic v =>
        cases e with
        | returned cv => exact hR.elim
        | panicked ch =>
          simp only [ResR] at hR; subst hR
          exact (Steps.head (st_enter hoi hw hd hr) hcomes).trans (.one (step_leave_panicked hleav))
        | outgrown => exact hR.elim
  | round l args st' =>
    obtain ⟨rfl, hl, hr⟩ := hs
    simp only [behindS] at h
    cases hcall : yield l args st'.heap st'.nx with
    | none => rw [hcall] at h; cases h
    | some outsF =>
      rw [hcall] at h
      obtain ⟨L, F, tm, as, bo, hyr, hY⟩ := hy _ _ _ _ _ hcall w0 β w H.wr hl
      rw [hyr] at hr
      obtain ⟨x, hx, β', w', v, hxv, he, hn, hW, hlv, hst⟩ := hY (fat b a (.inRegion ops (i :: rest) :: k)) cs
      refine behindC_ok hoi H hgo hx he hn hW (by rw [hxv]; exact hlv) h _ ?_
      rw [hxv]
      exact Steps.head (st_round hoi hw hd hr) hst

theorem operA_ok (hT : TabOK P T) (hc : FuncOK P T call) (hy : YieldOK P yield) {i : Nat} {rest : List Nat} {o : Oper} (hoi : ops[i]? = some o) (hd : b.roundOf = none ∨ isDefer o = false) {a : Act} {β : Beta} {st : ASt} {w : World}
    (H : SR w0 β st a.tmps a.defers w) {go : ASt → Option (List OutC)}
    (hgo : ∀ st' β' a' w' outs', go st' = some outs' → SR w0 β' st' a'.tmps a'.defers w' → Ext st.nx β β' → st.nx ≤ st'.nx → Out P b cs k (lone (fat b a' (.inRegion ops rest :: k)) cs w') w0 st'.nx β' outs')
    {outs : List OutC} (h : operA T call yield ops.toList o go st = some outs) : Out P b cs k (lone (fat b a (.inRegion ops (i :: rest) :: k)) cs w) w0 st.nx β outs := by
  rw [operA_eq] at h
  split at h
  · cases h
  · rename_i hwant
    have hw := want_ok H hwant
    have HS := H.put (a := a) o.dst (v := some undefA) (cv := undef) undef_val
    have hf := put_fields st o.dst (some undefA)
    have ho := hgo _ β _ w outs h HS (Ext.refl _ _) (by rw [hf.2.2.1]; exact Nat.le_refl _)
    refine ho.weaken (.one ?_) (Ext.refl _ _) (by rw [hf.2.2.1]; exact Nat.le_refl _) (fun x hx => hx)
    have e : (ops[i]?).bind (·.dst) = o.dst := by rw [hoi]; rfl
    rw [← e]
    exact st_op_skip (by rw [hoi]; simpa using hw)
  · rename_i hwant
    have hw := want_ok H hwant
    split at h
    · cases h
    · rename_i steps hsteps
      obtain ⟨s, hs, hok⟩ := opA_ok hT H hsteps
      obtain ⟨x, hx, hsub⟩ := goL_ok h s hs
      exact (stepA_ok hT hc hy hoi hd H hgo hw hok hx).weaken (Steps.refl _ _) (Ext.refl _ _) (Nat.le_refl _) hsub
end
end Go.Abs
