/- The operations: what the abstract run makes of each is what the model makes of it. -/
import Derived.Test.YtbbepcgjinfljaaGreatDoorAbsE
import Derived.Laws.Slices
namespace Go.Abs
open Go.RowKit

/-- What an operation comes to, in both runs. -/
def StepOK (P : Program) (T : Tab) (w0 : World) (β : Beta) (st : ASt) (tmps : Array Value) (w : World) (o : Oper) : Step → Prop
  | .val v st' => ∃ β' w' cv, ((execOp (evC tmps) o).run P w = .ok (.value cv) w' ∨ ((execOp (evC tmps) o).run P w = .ok .skip w' ∧ cv = undef)) ∧ Ext st.nx β β' ∧ st.nx ≤ st'.nx ∧
      st'.n = st.n ∧ st'.rows = st.rows ∧ st'.defers = st.defers ∧ WR w0 β' st'.heap st'.nx w' ∧ ∀ av, v = some av → av.lt st'.nx ∧ cv = conc β' av
  | .defer d st' => st' = st ∧ (execOp (evC tmps) o).run P w = .ok (.defer (concD β d)) w ∧ d.lt st.nx
  | .panic v st' => st' = st ∧ (execOp (evC tmps) o).run P w = .halt (.panic (conc β v)) w ∧ v.lt st.nx
  | .enter f args st' => st' = st ∧ ltL st.nx args ∧ ∀ fn, T.fn f = some fn → fn.body.isSome = true → (execOp (evC tmps) o).run P w = .ok (.enter f (concL β args).toArray) w
  | .round l args st' => st' = st ∧ ltL st.nx args ∧ (execOp (evC tmps) o).run P w = (Instr.yield (β l).b (concL β args).toArray).run P w

structure TabOK (P : Program) (T : Tab) : Prop where
  ty : TabTy P T
  fn : ∀ f fn, T.fn f = some fn → P.funcs[f]? = some fn ∧ (fn.name == "runtime.NumGoroutine") = false
  key : ∀ t, T.key t = true → ∃ f g, P.underlying t = some (.struct #[f, g]) ∧ f.name ≠ "_" ∧ g.name ≠ "_" ∧ f.offset = 0 ∧ g.offset = 1 ∧
    P.underlying f.type = some (.int .i64) ∧ P.underlying g.type = some (.int .i64) ∧ P.stoodInHeld t = false
  meth : ∀ t m f, T.meth t m = some f → ∀ v w, (method (P.types.size + Made.depth) t v m).run P w = .ok (f, v) w

section
variable {P : Program} {T : Tab} {w0 : World} {β : Beta} {st : ASt} {tmps : Array Value} {defers : List Deferred} {w : World} {o : Oper}

theorem constV_ok {v : Value} {av : AV} (h : constV v = some av) (β : Beta) (n : Nat) : av.lt n ∧ v = conc β av := by
  unfold constV at h
  split at h <;> first
    | (simp only [Option.some.injEq] at h; subst h; exact ⟨lt_noids rfl n, rfl⟩)
    | cases h

theorem ev_ok (H : SR w0 β st tmps defers w) {x : Operand} {av : AV} (h : st.ev x = some av) : av.lt st.nx ∧ evC tmps x = conc β av := by
  unfold ASt.ev at h
  cases x with
  | tmp t => exact H.rows t av h
  | const v => exact constV_ok h β st.nx
  | global g => cases h
  | func f => simp at h; subst h; exact ⟨lt_noids rfl _, rfl⟩

theorem same_ok (H : SR w0 β st tmps defers w) {v : OV} {cv : Value} (hr : (execOp (evC tmps) o).run P w = .ok (.value cv) w)
    (hv : ∀ av, v = some av → av.lt st.nx ∧ cv = conc β av) : StepOK P T w0 β st tmps w o (.val v st) :=
  ⟨β, w, cv, .inl hr, Ext.refl _ _, Nat.le_refl _, rfl, rfl, rfl, H.wr, hv⟩

theorem one_of (v : AV) (st' : ASt) {steps : List Step} (h : val v st' = some steps) (ho : StepOK P T w0 β st tmps w o (.val (some v) st')) : ∃ s ∈ steps, StepOK P T w0 β st tmps w o s := by
  simp only [val, Option.some.injEq] at h
  subst h
  exact ⟨_, by simp, ho⟩

theorem some_val {v : AV} {β : Beta} {n : Nat} {cv : Value} (hl : v.lt n) (hc : cv = conc β v) : ∀ av, some v = some av → av.lt n ∧ cv = conc β av := by
  intro av h; cases h; exact ⟨hl, hc⟩

/-! #### move, assign, pick -/
theorem move_ok (H : SR w0 β st tmps defers w) {x : Operand} (ho : o.op = .move x ∨ o.op = .assign x) : StepOK P T w0 β st tmps w o (.val (st.ev x) st) := by
  refine same_ok H (cv := evC tmps x) ?_ fun av h => ev_ok H h
  rcases ho with ho | ho <;> simp [execOp, ho]

theorem pick_ok (H : SR w0 β st tmps defers w) {c a b : Operand} (ho : o.op = .pick c a b) {steps : List Step} (h : opPick (st.ev c) (st.ev a) (st.ev b) st = some steps) :
    ∃ s ∈ steps, StepOK P T w0 β st tmps w o s := by
  unfold opPick at h
  split at h
  · rename_i t hc
    simp only [Option.some.injEq] at h; subst h
    refine ⟨_, List.mem_singleton.2 rfl, ?_⟩
    have e := (ev_ok H hc).2
    cases t with
    | true => exact same_ok H (cv := evC tmps a) (by simp [execOp, ho, e, conc, asBool]) fun av h => ev_ok H h
    | false => exact same_ok H (cv := evC tmps b) (by simp [execOp, ho, e, conc, asBool]) fun av h => ev_ok H h
  · cases h

/-! #### memory -/
theorem opLoad_ok (hT : TabOK P T) (H : SR w0 β st tmps defers w) {t : TypeId} {a : Operand} (ho : o.op = .load t a) {steps : List Step} (h : opLoad (T.ty t) (st.ev a) st = some steps) :
    ∃ s ∈ steps, StepOK P T w0 β st tmps w o s := by
  unfold opLoad at h
  split at h
  · rename_i i ht
    split at h
    · rename_i id off ha
      split at h
      · rename_i v hl
        obtain ⟨hr, hlt⟩ := load_ok (P := P) H.wr (hT.ty t i ht) hl
        have e := (ev_ok H ha).2
        refine one_of v st h (same_ok H (cv := conc β v) ?_ (some_val hlt rfl))
        simp [execOp, ho, Instr.loadAt, Instr.sureAddr, e, conc, hr]
      · cases h
    · cases h
  · cases h

theorem opStore_ok (hT : TabOK P T) (H : SR w0 β st tmps defers w) {t : TypeId} {a x : Operand} (ho : o.op = .store t a x) {steps : List Step} (h : opStore (T.ty t) (st.ev a) (st.ev x) st = some steps) :
    ∃ s ∈ steps, StepOK P T w0 β st tmps w o s := by
  unfold opStore at h
  split at h
  · rename_i i ht
    split at h
    · rename_i id off ha
      split at h
      · rename_i v hx
        split at h
        · rename_i h' hs
          obtain ⟨hvl, hve⟩ := ev_ok H hx
          obtain ⟨w', hr, H'⟩ := store_ok (P := P) H.wr (hT.ty t i ht) hvl hs
          have e := (ev_ok H ha).2
          refine one_of undefA _ h ⟨β, w', undef, .inr ⟨?_, rfl⟩, Ext.refl _ _, Nat.le_refl _, rfl, rfl, rfl, H', some_val (lt_noids rfl _) rfl⟩
          simp [execOp, ho, Instr.storeAt, Instr.sureAddr, e, hve, conc, hr]
        · cases h
      · cases h
    · cases h
  · cases h

theorem opNil_ok (H : SR w0 β st tmps defers w) {x : Operand} (ho : o.op = .nilCheck x) {steps : List Step} (h : opNil (st.ev x) st = some steps) :
    ∃ s ∈ steps, StepOK P T w0 β st tmps w o s := by
  unfold opNil at h
  split at h
  · rename_i a b hx
    obtain ⟨hl, e⟩ := ev_ok H hx
    refine one_of _ st h (same_ok H (cv := conc β (.ptr a b)) ?_ (some_val hl rfl))
    simp [execOp, ho, e, conc]
  · cases h

/-- A new block of cells. -/
theorem new_cells (H : SR w0 β st tmps defers w) {l : List AV} {t : TypeId} (hl : ltL st.nx l) {c : Array Value} (hc : c.toList = concL β l) :
    WR w0 (upd β st.nx ⟨w.heap.size, 0, c.size⟩) (st.new (.cells l)).2.heap (st.new (.cells l)).2.nx (w.alloc (.cells c t)) := by
  refine H.wr.alloc (.cells c t) (.cells l) 0 c.size ⟨hl.mono (by omega), c, t, ?_, ?_, ?_, ?_⟩
  · rw [upd_same]; exact heap_alloc_new _ _
  · simp
  · simp only [upd_same]
    have : c.size = l.length := by rw [← Array.length_toList, hc, concL_map, List.length_map]
    omega
  · intro i v hv
    simp only [upd_same, Nat.zero_add]
    rw [← Array.getElem?_toList, hc, concL_map, List.getElem?_map, hv]
    simp only [Option.map_some]
    rw [(upd_ext β st.nx _).conc (hl v (List.mem_of_getElem? hv))]

theorem opAlloc_ok (hT : TabOK P T) (H : SR w0 β st tmps defers w) {e : TypeId} (ho : o.op = .alloc e) {steps : List Step} (h : opAlloc (T.ty e) st = some steps) :
    ∃ s ∈ steps, StepOK P T w0 β st tmps w o s := by
  unfold opAlloc at h
  split at h
  · rename_i i ht
    have ty := hT.ty e i ht
    have hz : ltL st.nx i.zero.cells := cells_lt (lt_noids ty.noids _)
    have hc : (conc beta0 i.zero).cells.toList = concL β i.zero.cells := by rw [conc_noids ty.noids β, cells_conc]
    refine one_of _ _ h ⟨_, _, .pointer (some ⟨w.heap.size, 0, none⟩), .inl ?_, upd_ext _ _ _, Nat.le_succ _, rfl, rfl, rfl, new_cells H (t := e) hz hc, some_val ?_ ?_⟩
    · simp [execOp, ho, Instr.alloc, ty.zero, newVar, newRow]
    · intro k hk; simp [AV.ids] at hk; subst hk; simp [ASt.new]
    · simp [conc]
  · cases h

theorem opBox_ok (_hT : TabOK P T) (H : SR w0 β st tmps defers w) {e : TypeId} {x : Operand} (ho : o.op = .box e x) {steps : List Step} (h : opBox (T.ty e) (st.ev x) st = some steps) :
    ∃ s ∈ steps, StepOK P T w0 β st tmps w o s := by
  unfold opBox at h
  split at h
  · rename_i i v ht hx
    obtain ⟨hl, he⟩ := ev_ok H hx
    refine one_of _ _ h ⟨_, _, .pointer (some ⟨w.heap.size, 0, none⟩), .inl ?_, upd_ext _ _ _, Nat.le_succ _, rfl, rfl, rfl, new_cells H (t := e) (cells_lt hl) (cells_conc β v), some_val ?_ ?_⟩
    · simp [execOp, ho, Instr.box, he, newVar, newRow]
    · intro k hk; simp [AV.ids] at hk; subst hk; simp [ASt.new]
    · simp [conc]
  · cases h

theorem opField_ok (hT : TabOK P T) (H : SR w0 β st tmps defers w) {t : TypeId} {x : Operand} {f : Nat} (ho : o.op = .fieldAddr t x f) {steps : List Step} (h : opField (T.ty t) (st.ev x) f st = some steps) :
    ∃ s ∈ steps, StepOK P T w0 β st tmps w o s := by
  unfold opField at h
  split at h
  · rename_i fs sz z ht
    split at h
    · rename_i id off hx
      split at h
      · rename_i u of hf
        obtain ⟨hl, e⟩ := ev_ok H hx
        obtain ⟨d, hd, hk⟩ := (hT.ty t _ ht).und
        obtain ⟨fields, rfl, hfs, hpos⟩ := hk
        rw [getR_eq] at hf
        have hf' : (fields.toList.map (fun f => (f.type, f.offset)))[f]? = some (u, of) := by rw [hfs]; exact hf
        rw [List.getElem?_map] at hf'
        cases hfd : fields.toList[f]? with
        | none => rw [hfd] at hf'; cases hf'
        | some fd =>
          rw [hfd] at hf'
          simp only [Option.map_some, Option.some.injEq, Prod.mk.injEq] at hf'
          obtain ⟨rfl, rfl⟩ := hf'
          obtain ⟨inf, hi1, hi2⟩ := hpos fd (List.mem_of_getElem? hfd)
          have hfa : fields[f]? = some fd := by rw [← Array.getElem?_toList]; exact hfd
          refine one_of _ st h (same_ok H (cv := .pointer (some ⟨(β id).b, (β id).o + (off + fd.offset), none⟩)) ?_ (some_val ?_ (by simp [conc])))
          · have hsz : (Go.sizeOf fd.type).run P w = .ok inf.size w := by unfold Go.sizeOf; simp [run_typeInfo hi1]
            simp [execOp, ho, Instr.fieldAt, run_underlying hd, hfa, e, conc, Instr.sureAddr, fieldPlace, hsz, hi2, add_none, Nat.add_assoc]
          · intro k hk; simp [AV.ids] at hk; subst hk; exact hl _ (by simp [AV.ids])
      · cases h
    · cases h
  · cases h
end
end Go.Abs
