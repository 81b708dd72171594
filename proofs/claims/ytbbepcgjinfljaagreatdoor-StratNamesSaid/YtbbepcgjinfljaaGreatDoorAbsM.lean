/- The operations on maps. -/
import Derived.Test.YtbbepcgjinfljaaGreatDoorAbsJ
import Derived.MapKept
import Derived.Maps.RangeRun
namespace Go.Abs
open Go.RowKit

section
variable {P : Program} {T : Tab} {w0 : World} {β : Beta} {st : ASt} {tmps : Array Value} {defers : List Deferred} {w : World} {o : Oper}

theorem getObj_at {r : Nat} {es : Array MapEntry} {c : Nat} (h : w.heap[r]? = some (.map es c)) : (getObj r).run P w = .ok (.map es c) w := by simp [getObj, Sem.run, h]
theorem getIter_at {r : Nat} {m : Option Nat} {s : Nat} {seen : Array Nat} {c : Nat} (h : w.heap[r]? = some (.mapIter m s seen c)) : (getObj r).run P w = .ok (.mapIter m s seen c) w := by simp [getObj, Sem.run, h]
def putO (w : World) (r : Nat) (o : Obj) : World := { w with heap := w.heap.setIfInBounds r o }
theorem setObj_at {r : Nat} {o o' : Obj} (h : w.heap[r]? = some o) (hc : ∀ c e f, o ≠ .cells c e f) : (setObj r o').run P w = .ok () (putO w r o') := by
  cases o <;> first
    | (exact absurd rfl (hc _ _ _))
    | simp [setObj, Sem.run, h, putO]
theorem putO_same {r : Nat} {o o' : Obj} (h : w.heap[r]? = some o) : (putO w r o').heap[r]? = some o' := by
  have : r < w.heap.size := (Array.getElem?_eq_some_iff.1 h).1
  simp [putO, this]
theorem putO_other {r k : Nat} {o' : Obj} (h : k ≠ r) : (putO w r o').heap[k]? = w.heap[k]? := by
  simp [putO, Array.getElem?_setIfInBounds_ne (Ne.symm h)]
theorem below_putO {B r : Nat} (h : B ≤ r) (o' : Obj) : Below B w (putO w r o') :=
  ⟨rfl, rfl, rfl, by simp [putO], fun k hk => putO_other (by omega)⟩

/-- A key's two numbers. -/
def keyV (x y : Int) : Value := .agg #[.int .i64 x, .int .i64 y]

theorem isKey_ok {v : AV} (h : isKey v = true) : ∃ x y, v = .agg [.int .i64 x, .int .i64 y] := by
  unfold isKey at h
  split at h
  · exact ⟨_, _, rfl⟩
  · cases h
theorem conc_key (β : Beta) (x y : Int) : conc β (.agg [.int .i64 x, .int .i64 y]) = keyV x y := rfl

theorem isAgg_int {t : TypeId} {k : IntKind} (h : P.underlying t = some (.int k)) : (Go.isAgg t).run P w = .ok false w := by
  unfold Go.isAgg; simp only [Sem.run_bind, run_underlying h, Result.andThen_ok]; rfl

theorem part_int {t : TypeId} {k : IntKind} (h : P.underlying t = some (.int k)) {cs : Array Value} {i : Nat} {v : Value} (hv : cs[i]? = some v) : (Go.part t cs i).run P w = .ok v w := by
  unfold Go.part
  simp [isAgg_int h, hv]

theorem equal_int {t : TypeId} (h : P.underlying t = some (.int .i64)) (n : Nat) (a b : Int) : (Op.equalIn (n + 1) t (.int .i64 a) (.int .i64 b)).run P w = .ok (a == b) w := by
  rw [Op.equalIn]
  simp only [Sem.run_bind, run_underlying h, Result.andThen_ok, if_true, Sem.run_pure]

theorem equal_key (hT : TabOK P T) {t : TypeId} (h : T.key t = true) (x y x' y' : Int) : (Op.equal t (keyV x y) (keyV x' y')).run P w = .ok (x == x' && y == y') w := by
  obtain ⟨f, g, hu, hf, hg, hf0, hg1, htf, htg, hs⟩ := hT.key t h
  show (Op.equalIn (9998 + 1 + 1) t (keyV x y) (keyV x' y')).run P w = _
  rw [Op.equalIn]
  have p1 : ∀ a b, (Go.part f.type #[.int .i64 a, .int .i64 b] 0).run P w = .ok (.int .i64 a) w := fun a b => part_int htf (by simp)
  have p2 : ∀ a b, (Go.part g.type #[.int .i64 a, .int .i64 b] 1).run P w = .ok (.int .i64 b) w := fun a b => part_int htg (by simp)
  cases hx : x == x' <;> cases hy : y == y' <;>
    simp [keyV, run_underlying hu, hs, hf, hg, hf0, hg1, p1, p2, equal_int htf, equal_int htg, hx, hy]

theorem checkKey_ok (hT : TabOK P T) {t : TypeId} (h : T.key t = true) (b : Bool) (x y : Int) : (Instr.checkKey b 10000 t (keyV x y)).run P w = .ok () w := by
  obtain ⟨f, g, hu, hf, hg, hf0, hg1, htf, htg, hs⟩ := hT.key t h
  show (Instr.checkKey b (9998 + 1 + 1) t (keyV x y)).run P w = _
  rw [Instr.checkKey]
  have p1 : ∀ a b, (Go.part f.type #[.int .i64 a, .int .i64 b] 0).run P w = .ok (.int .i64 a) w := fun a b => part_int htf (by simp)
  have p2 : ∀ a b, (Go.part g.type #[.int .i64 a, .int .i64 b] 1).run P w = .ok (.int .i64 b) w := fun a b => part_int htg (by simp)
  have c1 : ∀ a, (Instr.checkKey b (9998 + 1) f.type (.int .i64 a)).run P w = .ok () w := by
    intro a; rw [Instr.checkKey]; simp only [Sem.run_bind, run_underlying htf, Result.andThen_ok, Sem.run_pure]
  have c2 : ∀ a, (Instr.checkKey b (9998 + 1) g.type (.int .i64 a)).run P w = .ok () w := by
    intro a; rw [Instr.checkKey]; simp only [Sem.run_bind, run_underlying htg, Result.andThen_ok, Sem.run_pure]
  simp [keyV, run_underlying hu, hf, hg, hf0, hg1, p1, p2, c1, c2]

theorem keyEq_ok (x y x' y' : Int) : keyEq (.agg [.int .i64 x, .int .i64 y]) (.agg [.int .i64 x', .int .i64 y']) = (x == x' && y == y') := by
  unfold keyEq
  simp only [ieq_ok]
  cases x == x' <;> rfl

/-- Entries from a number on. -/
def entriesFrom (β : Beta) (es : List (AV × AV)) (k : Nat) : List MapEntry := (es.zipIdx k).map fun e => { key := conc β e.1.1, val := conc β e.1.2, born := e.2 }

theorem find_ok (hT : TabOK P T) {t : TypeId} (h : T.key t = true) (x y : Int) : ∀ (es : List (AV × AV)) (k i : Nat), (∀ e ∈ es, isKey e.1 = true) →
    (Instr.findAsking t (keyV x y) (entriesFrom β es k) i).run P w = .ok ((findE (.agg [.int .i64 x, .int .i64 y]) es i).map fun r => (r.1, conc β r.2)) w := by
  intro es
  induction es with
  | nil => intro k i _; rfl
  | cons e r ih =>
    intro k i hk
    obtain ⟨x', y', hk'⟩ := isKey_ok (hk e (by simp))
    have hr := ih (k + 1) (i + 1) (fun e he => hk e (by simp [he]))
    have hfE : findE (.agg [.int .i64 x, .int .i64 y]) (e :: r) i = match keyEq e.1 (.agg [.int .i64 x, .int .i64 y]) with
      | true => some (i, e.2)
      | false => findE (.agg [.int .i64 x, .int .i64 y]) r (i + 1) := rfl
    rw [hfE, hk', keyEq_ok]
    have hc : (x == x' && y == y') = (x' == x && y' == y) := by
      have : ∀ a b : Int, (a == b) = (b == a) := fun a b => by rw [Bool.eq_iff_iff]; simp only [beq_iff_eq]; exact eq_comm
      rw [this x, this y]
    show (Instr.findAsking t (keyV x y) ({ key := conc β e.1, val := conc β e.2, born := k } :: entriesFrom β r (k + 1)) i).run P w = _
    rw [Instr.findAsking, Sem.run_bind, hk', conc_key, equal_key hT h, Result.andThen_ok, hc]
    cases x' == x && y' == y with
    | true => rfl
    | false => exact hr

theorem findKey_ok (hT : TabOK P T) {t : TypeId} (h : T.key t = true) (x y : Int) (es : List (AV × AV)) (hk : ∀ e ∈ es, isKey e.1 = true) :
    (Instr.findKey t (keyV x y) (entriesOf β es)).run P w = .ok ((findE (.agg [.int .i64 x, .int .i64 y]) es 0).map fun r => (r.1, conc β r.2)) w := by
  obtain ⟨f, g, hu, _⟩ := hT.key t h
  have hf := find_ok (P := P) (w := w) (β := β) hT h x y es 0 0 hk
  unfold Instr.findKey
  simp only [Sem.run_bind, run_underlying hu, Result.andThen_ok]
  cases es with
  | nil => rfl
  | cons e r =>
    have : Instr.findNow (.struct #[f, g]) (keyV x y) (entriesOf β (e :: r)) 0 = none := by
      simp only [entriesOf, List.zipIdx_cons, List.map_cons, Instr.findNow]
      rfl
    rw [this]
    exact hf

theorem map_here {h : AH} {nx : Nat} (H : WR w0 β h nx w) {id : Nat} {es : List (AV × AV)} (hg : h.get id = some (.map es)) :
    (∀ e ∈ es, e.1.lt nx ∧ e.2.lt nx) ∧ w0.heap.size ≤ (β id).b ∧ ∃ en : Array MapEntry, w.heap[(β id).b]? = some (.map en es.length) ∧ en.toList = entriesOf β es := by
  obtain ⟨h1, h2, h3, en, h4, h5⟩ := H.here id _ hg
  exact ⟨fun e he => ⟨(h3 e he).1.mono (Nat.zero_le _), (h3 e he).2.mono (Nat.zero_le _)⟩, h2, en, h4, h5⟩
theorem map_here0 {h : AH} {nx : Nat} (H : WR w0 β h nx w) {id : Nat} {es : List (AV × AV)} (hg : h.get id = some (.map es)) :
    ∀ e ∈ es, e.1.lt 0 ∧ e.2.lt 0 := by
  obtain ⟨h1, h2, h3, en, h4, h5⟩ := H.here id _ hg
  exact h3

theorem opMakeMap_ok (H : SR w0 β st tmps defers w) {t : TypeId} (ho : o.op = .makeMap t none) {steps : List Step} (h : val (.map st.nx) (st.new (.map [])).2 = some steps) :
    ∃ s ∈ steps, StepOK P T w0 β st tmps w o s := by
  have hW := H.wr.alloc (.map #[] 0) (.map []) 0 0 ⟨fun e he => (List.not_mem_nil he).elim, #[], by rw [upd_same]; exact heap_alloc_new _ _, rfl⟩
  refine one_of _ _ h ⟨_, _, .map (some w.heap.size), .inl ?_, upd_ext _ _ _, Nat.le_succ _, rfl, rfl, rfl, hW, some_val ?_ ?_⟩
  · simp [execOp, ho, Instr.makeMap]
  · intro k hk; simp [AV.ids] at hk; subst hk; simp [ASt.new]
  · simp [conc]

theorem findE_mem {k : AV} : ∀ {es : List (AV × AV)} {i : Nat} {r : Nat × AV}, findE k es i = some r → i ≤ r.1 ∧ ∃ e, es[r.1 - i]? = some e ∧ e.2 = r.2 ∧ keyEq e.1 k = true := by
  intro es
  induction es with
  | nil => intro i r h; cases h
  | cons e t ih =>
    intro i r h
    have hfE : findE k (e :: t) i = match keyEq e.1 k with
      | true => some (i, e.2)
      | false => findE k t (i + 1) := rfl
    rw [hfE] at h
    split at h
    · rename_i he
      simp only [Option.some.injEq] at h; subst h
      exact ⟨Nat.le_refl _, e, by simp, rfl, he⟩
    · obtain ⟨h1, e', h2, h3⟩ := ih h
      refine ⟨by omega, e', ?_, h3⟩
      rw [show r.1 - i = (r.1 - (i + 1)) + 1 by omega]
      simpa using h2

theorem opLookup_ok (hT : TabOK P T) (H : SR w0 β st tmps defers w) {t : TypeId} {x k : Operand} {ok : Bool} (ho : o.op = .lookup t x k ok) {steps : List Step}
    (h : opLookup T (T.ty t) (st.ev x) (st.ev k) ok st = some steps) : ∃ s ∈ steps, StepOK P T w0 β st tmps w o s := by
  unfold opLookup at h
  split at h
  · rename_i kt e s zz ht
    obtain ⟨d, hd, hk⟩ := (hT.ty t _ ht).und
    cases hk
    split at h
    · rename_i id hx
      split at h
      · rename_i key hkey
        split at h
        · rename_i es hg
          split at h
          · rename_i te hte
            split at h
            · rename_i hb
              simp only [Bool.and_eq_true, allR_eq, List.all_eq_true] at hb
              obtain ⟨⟨hkk, hkt⟩, hall⟩ := hb
              obtain ⟨kx, ky, rfl⟩ := isKey_ok hkk
              obtain ⟨hxl, hxe⟩ := ev_ok H hx
              obtain ⟨hkl, hke⟩ := ev_ok H hkey
              obtain ⟨hel, _, en, hen, hes⟩ := map_here H.wr hg
              have ty := hT.ty e te hte
              have hf := findKey_ok (P := P) (w := w) (β := β) hT hkt kx ky es hall
              have hr : ∀ v b, (findE (.agg [.int .i64 kx, .int .i64 ky]) es 0).elim (conc β te.zero, false) (fun r => (conc β r.2, true)) = (v, b) →
                  (execOp (evC tmps) o).run P w = .ok (.value (if ok then .tuple #[v, .bool b] else v)) w := by
                intro v b hvb
                have hz : (zeroValue e).run P w = .ok (conc β te.zero) w := by rw [ty.zero, conc_noids ty.noids β]
                simp only [execOp, ho, hxe, hke, conc, concL, Instr.lookup, Sem.run_bind, run_underlying hd, Result.andThen_ok, getObj_at (P := P) hen, Sem.run_pure]
                have hck := checkKey_ok (P := P) (w := w) hT hkt en.isEmpty kx ky
                simp only [keyV] at hck hf
                simp only [hck, Result.andThen_ok, hes, hf]
                cases hfe : findE (.agg [.int .i64 kx, .int .i64 ky]) es 0 with
                | none => rw [hfe] at hvb; cases hvb; simp [hz]
                | some r => rw [hfe] at hvb; cases hvb; simp
              unfold found at h
              split at h
              · rename_i i v hfe
                obtain ⟨_, ent, hent, rfl, _⟩ := findE_mem hfe
                have hvl := (hel ent (List.mem_of_getElem? hent)).2
                have hr := hr (conc β ent.2) true (by rw [hfe]; rfl)
                split at h
                · exact one_of _ st h (same_ok H hr (some_val (by intro k hk; simp [AV.ids, AV.idsL] at hk; exact hvl k hk) rfl))
                · exact one_of _ st h (same_ok H hr (some_val hvl rfl))
              · rename_i hfe
                have hr := hr (conc β te.zero) false (by rw [hfe]; rfl)
                split at h
                · exact one_of _ st h (same_ok H hr (some_val (by intro k hk; simp [AV.ids, AV.idsL, ty.noids] at hk) rfl))
                · exact one_of _ st h (same_ok H hr (some_val (lt_noids ty.noids _) rfl))
            · cases h
          · cases h
        · cases h
      · cases h
    · cases h
  · cases h

theorem entriesOf_get (β : Beta) (es : List (AV × AV)) (i : Nat) : (entriesOf β es)[i]? = es[i]?.map fun e => { key := conc β e.1, val := conc β e.2, born := i } := by
  unfold entriesOf
  rw [List.getElem?_map, List.getElem?_zipIdx]
  cases es[i]? <;> simp

theorem setE_found {k v : AV} : ∀ {es : List (AV × AV)} {i : Nat} {r : Nat × AV}, findE k es i = some r → ∀ j, (setE k v es)[j]? = if j = r.1 - i then es[j]?.map (fun e => (e.1, v)) else es[j]? := by
  intro es
  induction es with
  | nil => intro i r h; cases h
  | cons e t ih =>
    intro i r h j
    have hfE : findE k (e :: t) i = match keyEq e.1 k with
      | true => some (i, e.2)
      | false => findE k t (i + 1) := rfl
    have hsE : setE k v (e :: t) = match keyEq e.1 k with
      | true => (e.1, v) :: t
      | false => e :: setE k v t := rfl
    rw [hfE] at h
    rw [hsE]
    split at h
    · rename_i he
      simp only [Option.some.injEq] at h; subst h
      simp only [Nat.sub_self]
      cases j with
      | zero => simp
      | succ j => simp
    · rename_i he
      have := (findE_mem h).1
      cases j with
      | zero => rw [if_neg (by omega)]; simp
      | succ j =>
        simp only [List.getElem?_cons_succ]
        rw [ih h j]
        by_cases hj : j = r.1 - (i + 1)
        · rw [if_pos hj, if_pos (by omega)]
        · rw [if_neg hj, if_neg (by omega)]
theorem setE_none {k v : AV} : ∀ {es : List (AV × AV)} {i : Nat}, findE k es i = none → setE k v es = es ++ [(k, v)] := by
  intro es
  induction es with
  | nil => intro i _; rfl
  | cons e t ih =>
    intro i h
    have hfE : findE k (e :: t) i = match keyEq e.1 k with
      | true => some (i, e.2)
      | false => findE k t (i + 1) := rfl
    have hsE : setE k v (e :: t) = match keyEq e.1 k with
      | true => (e.1, v) :: t
      | false => e :: setE k v t := rfl
    rw [hfE] at h
    rw [hsE]
    split at h
    · cases h
    · rename_i he
      rw [ih h]; rfl
theorem setE_length {k v : AV} {es : List (AV × AV)} {r : Nat × AV} (h : findE k es 0 = some r) : (setE k v es).length = es.length := by
  have hs := setE_found (v := v) h
  apply Nat.le_antisymm
  · rcases Nat.lt_or_ge es.length (setE k v es).length with hlt | hge
    · have h1 := hs es.length
      rw [List.getElem?_eq_none (Nat.le_refl es.length)] at h1
      rw [List.getElem?_eq_getElem hlt] at h1
      split at h1 <;> simp at h1
    · exact hge
  · rcases Nat.lt_or_ge (setE k v es).length es.length with hlt | hge
    · have h1 := hs (setE k v es).length
      rw [List.getElem?_eq_none (Nat.le_refl _)] at h1
      rw [List.getElem?_eq_getElem hlt] at h1
      split at h1 <;> simp at h1
    · exact hge

theorem sameKey (x y : Int) : Instr.sameBits 10000 (keyV x y) (keyV x y) = true := by
  show Instr.sameBits (9999 + 1) (keyV x y) (keyV x y) = true
  simp [keyV, Instr.sameBits]

theorem opMapUpdate_ok (hT : TabOK P T) (H : SR w0 β st tmps defers w) {t : TypeId} {m k x : Operand} (ho : o.op = .mapUpdate t m k x) {steps : List Step}
    (h : opMapUpdate T (T.ty t) (st.ev m) (st.ev k) (st.ev x) st = some steps) : ∃ s ∈ steps, StepOK P T w0 β st tmps w o s := by
  unfold opMapUpdate at h
  split at h
  · rename_i kt e s zz ht
    obtain ⟨d, hd, hk⟩ := (hT.ty t _ ht).und
    cases hk
    split at h
    · rename_i id hm
      split at h
      · rename_i key hkey
        split at h
        · rename_i b hx
          split at h
          · rename_i es hg
            split at h
            · rename_i hb
              simp only [Bool.and_eq_true, allR_eq, List.all_eq_true] at hb
              obtain ⟨⟨hkk, hkt⟩, hall⟩ := hb
              obtain ⟨kx, ky, rfl⟩ := isKey_ok hkk
              obtain ⟨hml, hme⟩ := ev_ok H hm
              obtain ⟨hkl, hke⟩ := ev_ok H hkey
              obtain ⟨hxl, hxe⟩ := ev_ok H hx
              obtain ⟨hel, hbl, en, hen, hes⟩ := map_here H.wr hg
              have hel0 := map_here0 H.wr hg
              have hf := findKey_ok (P := P) (w := w) (β := β) hT hkt kx ky es hall
              have hck := checkKey_ok (P := P) (w := w) hT hkt false kx ky
              have fin : ∀ (en' : Array MapEntry) (n' : Nat), n' = (setE (.agg [.int .i64 kx, .int .i64 ky]) (.bool b) es).length →
                  en'.toList = entriesOf β (setE (.agg [.int .i64 kx, .int .i64 ky]) (.bool b) es) →
                  (∀ e ∈ setE (.agg [.int .i64 kx, .int .i64 ky]) (.bool b) es, e.1.lt 0 ∧ e.2.lt 0) →
                  (execOp (evC tmps) o).run P w = .ok .skip (putO w (β id).b (.map en' n')) → ∃ s ∈ steps, StepOK P T w0 β st tmps w o s := by
                intro en' n' hn' hen' hlt hr
                refine one_of _ _ h ⟨β, _, undef, .inr ⟨hr, rfl⟩, Ext.refl _ _, Nat.le_refl _, rfl, rfl, rfl, ?_, some_val (lt_noids rfl _) rfl⟩
                exact H.wr.turn hg (below_putO hbl _) (fun k hk => putO_other hk) ⟨hlt, en', by rw [putO_same hen, hn'], hen'⟩
              have hrun : ∀ (u : Result Next), (((Instr.findKey kt (keyV kx ky) en.toList).run P w).andThen fun r w => (match r with
                    | some (i, _) => (do let key ← Instr.keyThatStays (((en[i]?).map fun (e : MapEntry) => e.key).getD (keyV kx ky)) (keyV kx ky); setObj (β id).b (.map (en.modify i fun (e : MapEntry) => { e with key, val := .bool b }) es.length) : Sem Unit)
                    | none => setObj (β id).b (.map (en.push { key := keyV kx ky, val := .bool b, born := es.length }) (es.length + 1))).run P w).andThen (fun _ w => .ok .skip w) = u → (execOp (evC tmps) o).run P w = u := by
                rintro u rfl
                simp only [keyV] at hck ⊢
                simp only [execOp, ho, hme, hke, hxe, conc, concL, Instr.mapUpdate, Sem.run_bind, run_underlying hd, Result.andThen_ok, getObj_at (P := P) hen, hck, Sem.run_pure]
                cases (Instr.findKey kt (.agg #[.int .i64 kx, .int .i64 ky]) en.toList).run P w with
                | ok r w => simp only [Result.andThen_ok]; rcases r with _ | ⟨i, v⟩ <;> rfl
                | halt _ _ => rfl
              have hnc : ∀ c e f, Obj.map en es.length ≠ .cells c e f := by intro c e f h; cases h
              cases hfe : findE (.agg [.int .i64 kx, .int .i64 ky]) es 0 with
              | some r =>
                obtain ⟨_, ent, hent, hentv, heq⟩ := findE_mem hfe
                simp only [Nat.sub_zero] at hent
                obtain ⟨x', y', hk'⟩ := isKey_ok (hall ent (List.mem_of_getElem? hent))
                rw [hk', keyEq_ok] at heq
                simp only [Bool.and_eq_true, beq_iff_eq] at heq
                obtain ⟨rfl, rfl⟩ := heq
                have henr : en[r.1]? = some { key := keyV x' y', val := conc β ent.2, born := r.1 } := by
                  rw [← Array.getElem?_toList, hes, entriesOf_get, hent]; simp [hk', conc_key]
                have hs := setE_found (v := .bool b) hfe
                refine fin (en.modify r.1 fun e => { e with key := keyV x' y', val := .bool b }) es.length (setE_length hfe).symm ?_ ?_ ?_
                · apply List.ext_getElem?
                  intro j
                  rw [Array.getElem?_toList, Array.getElem?_modify, entriesOf_get, hs j]
                  simp only [Nat.sub_zero]
                  by_cases hj : r.1 = j
                  · subst hj
                    rw [if_pos rfl, if_pos rfl, henr, hent]
                    simp only [Option.map_some, hk', conc]
                    rfl
                  · rw [if_neg hj, if_neg (fun h => hj h.symm), ← Array.getElem?_toList, hes, entriesOf_get]
                · intro u hu
                  obtain ⟨j, hj⟩ := List.getElem?_of_mem hu
                  rw [hs j] at hj
                  split at hj
                  · cases hej : es[j]? with
                    | none => rw [hej] at hj; cases hj
                    | some w => rw [hej] at hj; simp at hj; subst hj; exact ⟨(hel0 w (List.mem_of_getElem? hej)).1, lt_noids rfl _⟩
                  · exact hel0 u (List.mem_of_getElem? hj)
                · refine hrun _ ?_
                  rw [hes, hf, hfe]
                  simp only [Option.map_some, Result.andThen_ok, Sem.run_bind, henr, Option.getD_some, Instr.keyThatStays, sameKey, if_true, Sem.run_pure]
                  rw [setObj_at hen hnc]
                  rfl
              | none =>
                refine fin (en.push { key := keyV kx ky, val := .bool b, born := es.length }) (es.length + 1) (by rw [setE_none hfe]; simp) ?_ ?_ ?_
                · rw [setE_none hfe]
                  simp only [Array.toList_push, hes, entriesOf, List.zipIdx_append, List.map_append]
                  simp [conc]
                  rfl
                · intro u hu
                  rw [setE_none hfe] at hu
                  rcases List.mem_append.1 hu with hu | hu
                  · exact hel0 u hu
                  · simp at hu; subst hu; exact ⟨lt_noids rfl _, lt_noids rfl _⟩
                · refine hrun _ ?_
                  rw [hes, hf, hfe]
                  simp only [Option.map_none, Result.andThen_ok]
                  rw [setObj_at hen hnc]
                  rfl
            · cases h
          · cases h
        · cases h
      · cases h
    · cases h
  · cases h

theorem opRange_ok (hT : TabOK P T) (H : SR w0 β st tmps defers w) {t : TypeId} {x : Operand} (ho : o.op = .range t x) {steps : List Step}
    (h : opRange (T.ty t) (st.ev x) st = some steps) : ∃ s ∈ steps, StepOK P T w0 β st tmps w o s := by
  unfold opRange at h
  split at h
  · rename_i kt e s zz ht
    obtain ⟨d, hd, hk⟩ := (hT.ty t _ ht).und
    cases hk
    split at h
    · rename_i id hx
      split at h
      · rename_i es hg
        obtain ⟨hxl, hxe⟩ := ev_ok H hx
        obtain ⟨hel, hbl, en, hen, hes⟩ := map_here H.wr hg
        have hid : id < st.nx := hxl id (by simp [AV.ids])
        rw [lenR_eq] at h
        have hW := H.wr.alloc (.mapIter (some (β id).b) es.length #[] es.length) (.iter id es.length [] none) 0 0
          ⟨by omega, by simp, #[], by rw [upd_same, upd_ext β st.nx _ id hid]; exact heap_alloc_new _ _, by intro i _; simp, by intro j h; cases h⟩
        refine one_of _ _ h ⟨_, _, .pointer (some ⟨w.heap.size, 0, none⟩), .inl ?_, upd_ext _ _ _, Nat.le_succ _, rfl, rfl, rfl, hW, some_val ?_ ?_⟩
        · simp only [execOp, ho, hxe, conc, Instr.range, Sem.run_bind, run_underlying hd, Result.andThen_ok, getObj_at (P := P) hen, Sem.run_pure, run_newObj]
          rfl
        · intro k hk; simp [AV.ids] at hk; subst hk; simp [ASt.new]
        · simp [conc]
      · cases h
    · cases h
  · cases h

theorem insN_mem {n i : Nat} {l : List Nat} : i ∈ insN n l ↔ i = n ∨ i ∈ l := by
  induction l with
  | nil => show i ∈ [n] ↔ _; simp
  | cons a r ih =>
    have : insN n (a :: r) = match Nat.ble n a with
      | true => n :: a :: r
      | false => a :: insN n r := rfl
    rw [this]
    split
    · simp
    · simp only [List.mem_cons, ih]
      constructor
      · rintro (h | h | h) <;> simp [h]
      · rintro (h | h | h) <;> simp [h]
theorem leftN_mem {seen l : List Nat} {i : Nat} : i ∈ leftN seen l ↔ i ∈ l ∧ i ∉ seen := by
  induction l with
  | nil => show i ∈ [] ↔ _; simp
  | cons a r ih =>
    have : leftN seen (a :: r) = match memN a seen with
      | true => leftN seen r
      | false => a :: leftN seen r := rfl
    rw [this, memN_eq]
    by_cases h : a ∈ seen
    · simp only [h, decide_true, ih, List.mem_cons]
      constructor
      · rintro ⟨h1, h2⟩; exact ⟨.inr h1, h2⟩
      · rintro ⟨h1 | h1, h2⟩
        · exact absurd (h1 ▸ h) h2
        · exact ⟨h1, h2⟩
    · simp only [h, decide_false, ih, List.mem_cons]
      constructor
      · rintro (h1 | ⟨h1, h2⟩)
        · exact ⟨.inl h1, h1 ▸ h⟩
        · exact ⟨.inr h1, h2⟩
      · rintro ⟨h1 | h1, h2⟩
        · exact .inl h1
        · exact .inr ⟨h1, h2⟩
theorem rangeN_mem {n i : Nat} : i ∈ rangeN n ↔ i < n := by
  induction n with
  | zero => show i ∈ [] ↔ _; simp
  | succ n ih => show i ∈ appR (rangeN n) [n] ↔ _; rw [appR_eq]; simp [ih]; omega

theorem nexts_ok {es : List (AV × AV)} {i m n : Nat} {seen : List Nat} : ∀ {l : List Nat} {steps : List Step}, nexts es st i m n seen l = some steps → ∀ j ∈ l, ∃ e, es[j]? = some e ∧
    Step.val (some (.tuple [.bool true, e.1, e.2])) { st with heap := st.heap.put i (.iter m n (insN j seen) (some j)) } ∈ steps := by
  intro l
  induction l with
  | nil => intro steps _ j hj; cases hj
  | cons a r ih =>
    intro steps h j hj
    have hd : nexts es st i m n seen (a :: r) = match getR es a with
      | some e => match nexts es st i m n seen r with
        | some l => some (.val (some (.tuple [.bool true, e.1, e.2])) { st with heap := st.heap.put i (.iter m n (insN a seen) (some a)) } :: l)
        | none => none
      | none => none := rfl
    rw [hd, getR_eq] at h
    split at h
    · rename_i e he
      split at h
      · rename_i l' hl
        simp only [Option.some.injEq] at h; subst h
        rcases List.mem_cons.1 hj with rfl | hj
        · exact ⟨e, he, by simp⟩
        · obtain ⟨e', he', hm⟩ := ih hl j hj
          exact ⟨e', he', by simp [hm]⟩
      · cases h
    · cases h

theorem opNext_ok (_hT : TabOK P T) (H : SR w0 β st tmps defers w) {x : Operand} (ho : o.op = .next x false) {steps : List Step}
    (h : opNext (st.ev x) st = some steps) : ∃ s ∈ steps, StepOK P T w0 β st tmps w o s := by
  unfold opNext at h
  split at h
  · rename_i i hx
    split at h
    · rename_i m n seen cur hgi
      split at h
      · rename_i es hgm
        split at h
        · rename_i hlen
          rw [lenR_eq, nbeq] at hlen
          have hlen : es.length = n := of_decide_eq_true hlen
          obtain ⟨hxl, hxe⟩ := ev_ok H hx
          obtain ⟨hil, hib, hm, hio, sc, hsc, hseen, hcur⟩ := H.wr.here i _ hgi
          obtain ⟨hel, hbl, en, hen, hes⟩ := map_here H.wr hgm
          subst hlen
          have hget : ∀ j : Nat, en[j]? = es[j]?.map fun e => { key := conc β e.1, val := conc β e.2, born := j } := fun j => by rw [← Array.getElem?_toList, hes, entriesOf_get]
          have hmem : ∀ e ∈ en, e.born < es.length ∧ ∃ u, es[e.born]? = some u ∧ e = { key := conc β u.1, val := conc β u.2, born := e.born } := by
            intro e he
            obtain ⟨j, hj⟩ := Array.getElem?_of_mem he
            rw [hget] at hj
            cases hej : es[j]? with
            | none => rw [hej] at hj; cases hj
            | some u =>
              rw [hej] at hj; simp only [Option.map_some, Option.some.injEq] at hj; subst hj
              exact ⟨(List.getElem?_eq_some_iff.1 hej).1, u, hej, rfl⟩
          have hsafe : (!sc.isEmpty && !en.isEmpty && en.all (fun e => decide (e.born ≥ es.length))) = false := by
            rw [Bool.eq_false_iff]
            intro hb
            simp only [Bool.and_eq_true, Bool.not_eq_true', Array.all_eq_true'] at hb
            obtain ⟨⟨_, hne⟩, hall⟩ := hb
            have hsz : 0 < en.size := by
              rcases Nat.eq_zero_or_pos en.size with h0 | h0
              · simp [Array.isEmpty, h0] at hne
              · exact h0
            have h1 := (hmem en[0] (Array.getElem_mem hsz)).1
            have h2 := hall en[0] (Array.getElem_mem hsz)
            simp only [ge_iff_le, decide_eq_true_eq] at h2
            omega
          generalize hleft : en.filter (fun e => !sc.contains e.born) = left
          have hold : left.filter (fun e => decide (e.born < es.length)) = left := by
            apply Array.filter_eq_self.2
            intro e he
            rw [← hleft] at he
            simpa using (hmem e (Array.mem_filter.1 he).1).1
          have hnew : left.filter (fun e => decide (e.born ≥ es.length)) = #[] := by
            apply Array.filter_eq_empty_iff.2
            intro e he
            rw [← hleft] at he
            have := (hmem e (Array.mem_filter.1 he).1).1
            simp; omega
          have hpre : (execOp (evC tmps) o).run P w = (((do
              let candidates := (if left.isEmpty then #[none] else #[]) ++ left.map some
              match candidates[← choose (.mapNext candidates.size)]? with
              | some (some e) => do
                setObj (β i).b (.mapIter (some (β m).b) es.length (sc.push e.born) es.length)
                pure (.tuple #[.bool true, e.key, e.val])
              | some none => pure (.tuple #[.bool false])
              | none => stuck "Next: no such candidate") : Sem Value).run P w).andThen fun v w => .ok (.value v) w := by
            simp only [execOp, ho, hxe, conc, hio, Nat.add_zero, Instr.next, Sem.run_bind, getIter_at (P := P) hsc, getObj_at (P := P) hen, Result.andThen_ok, hsafe, Bool.false_eq_true, if_false, hleft, hold, hnew, Array.append_empty]
            rfl
          have hlm : ∀ e, e ∈ left ↔ e ∈ en ∧ e.born ∉ seen := by
            intro e
            rw [← hleft, Array.mem_filter]
            constructor
            · rintro ⟨h1, h2⟩
              refine ⟨h1, fun hs => ?_⟩
              rw [(hseen e.born (hmem e h1).1).2 hs] at h2
              cases h2
            · rintro ⟨h1, h2⟩
              refine ⟨h1, ?_⟩
              rw [Bool.not_eq_true', Bool.eq_false_iff]
              exact fun hc => h2 ((hseen e.born (hmem e h1).1).1 hc)
          split at h
          · -- all have been come to
            rename_i hl
            have hemp : left = #[] := by
              apply Array.eq_empty_of_size_eq_zero
              rcases Nat.eq_zero_or_pos left.size with h0 | h0
              · exact h0
              · have h1 := (hlm left[0]).1 (Array.getElem_mem h0)
                have h2 : left[0].born ∈ leftN seen (rangeN es.length) := leftN_mem.2 ⟨rangeN_mem.2 (hmem _ h1.1).1, h1.2⟩
                rw [hl] at h2; cases h2
            refine one_of _ st h (same_ok H (cv := .tuple #[.bool false]) ?_ (some_val (lt_noids rfl _) rfl))
            rw [hpre, hemp]
            simp [Question.forced]
          · rename_i a r hl
            have hpos : 0 < left.size := by
              have h1 : a ∈ leftN seen (rangeN es.length) := by rw [hl]; simp
              obtain ⟨h1, h2⟩ := leftN_mem.1 h1
              have h1 := rangeN_mem.1 h1
              obtain ⟨u, hu⟩ : ∃ u, es[a]? = some u := ⟨es[a], by simp [h1]⟩
              have h3 := hget a
              rw [hu] at h3
              have h4 : { key := conc β u.1, val := conc β u.2, born := a } ∈ left := (hlm _).2 ⟨Array.mem_of_getElem? h3, h2⟩
              obtain ⟨j, hj, _⟩ := Array.getElem_of_mem h4
              omega
            have hne : left.isEmpty = false := by simp only [Array.isEmpty]; exact decide_eq_false (by omega)
            -- which one is drawn
            have hch : ∃ c w1, c < left.size ∧ (choose (.mapNext left.size)).run P w = .ok c w1 ∧ (w1 = w ∨ w1 = w.drew) := by
              rw [run_choose]
              split
              · exact ⟨0, w, hpos, rfl, .inl rfl⟩
              · exact ⟨_, _, Nat.mod_lt _ hpos, rfl, .inr rfl⟩
            obtain ⟨c, w1, hcl, hcr, hw1⟩ := hch
            obtain ⟨h1, h2⟩ := (hlm left[c]).1 (Array.getElem_mem hcl)
            obtain ⟨hb, u, hu, he⟩ := hmem _ h1
            have hj : left[c].born ∈ a :: r := by rw [← hl]; exact leftN_mem.2 ⟨rangeN_mem.2 hb, h2⟩
            obtain ⟨u', hu', hs⟩ := nexts_ok h _ hj
            rw [hu] at hu'; cases hu'
            have hsc1 : w1.heap[(β i).b]? = some (.mapIter (some (β m).b) es.length sc es.length) := by rcases hw1 with rfl | rfl <;> exact hsc
            have H1 : WR w0 β st.heap st.nx w1 := by
              rcases hw1 with rfl | rfl
              · exact H.wr
              · exact H.wr.drew
            refine ⟨_, hs, β, _, .tuple #[.bool true, conc β u.1, conc β u.2], .inl ?_, Ext.refl _ _, Nat.le_refl _, rfl, rfl, rfl,
              H1.turn hgi (below_putO hib (.mapIter (some (β m).b) es.length (sc.push left[c].born) es.length)) (fun k hk => putO_other hk) ⟨hm, hio, _, putO_same hsc1, ?_, ?_⟩, some_val ?_ rfl⟩
            · rw [hpre]
              have e1 : left[c]? = some left[c] := by simp [hcl]
              have e2 : left[c].key = conc β u.1 := by rw [he]
              have e3 : left[c].val = conc β u.2 := by rw [he]
              simp only [hne, Bool.false_eq_true, if_false, Array.empty_append, Array.size_map, Sem.run_bind, hcr, Result.andThen_ok, Array.getElem?_map, e1, Option.map_some,
                setObj_at hsc1 (by intro c e f h; cases h), Sem.run_pure, e2, e3]
            · intro k hk
              rw [insN_mem, Array.contains_push]
              rw [Bool.or_eq_true, hseen k hk, beq_iff_eq]
              constructor
              · rintro (h | h)
                · exact .inr h
                · exact .inl h
              · rintro (h | h)
                · exact .inr h
                · exact .inl h
            · intro j hj; cases hj; simp
            · intro k hk
              simp only [AV.ids, AV.idsL, List.mem_append, List.not_mem_nil, or_false, false_or] at hk
              rcases hk with hk | hk
              · exact (hel u (List.mem_of_getElem? hu)).1 k hk
              · exact (hel u (List.mem_of_getElem? hu)).2 k hk
        · cases h
      · cases h
    · cases h
  · cases h

theorem opEntry_ok (_hT : TabOK P T) (H : SR w0 β st tmps defers w) {x : Operand} (ho : o.op = .entry x) {steps : List Step}
    (h : opEntry (st.ev x) st = some steps) : ∃ s ∈ steps, StepOK P T w0 β st tmps w o s := by
  unfold opEntry at h
  split at h
  · rename_i i hx
    split at h
    · rename_i m n seen j hgi
      split at h
      · rename_i es hgm
        split at h
        · rename_i hlen
          rw [lenR_eq, nbeq] at hlen
          have hlen : es.length = n := of_decide_eq_true hlen
          subst hlen
          split at h
          · rename_i k v hj
            rw [getR_eq] at hj
            obtain ⟨hxl, hxe⟩ := ev_ok H hx
            obtain ⟨hil, hib, hm, hio, sc, hsc, hseen, hcur⟩ := H.wr.here i _ hgi
            obtain ⟨hel, hbl, en, hen, hes⟩ := map_here H.wr hgm
            have hback := hcur j rfl
            have hget : ∀ j : Nat, en[j]? = es[j]?.map fun e => { key := conc β e.1, val := conc β e.2, born := j } := fun j => by rw [← Array.getElem?_toList, hes, entriesOf_get]
            have hfind : en.find? (fun e => e.born == j) = some { key := conc β k, val := conc β v, born := j } := by
              have hgj := hget j
              rw [hj] at hgj
              rw [Array.find?_eq_some_iff_getElem]
              obtain ⟨hlt, he⟩ := Array.getElem?_eq_some_iff.1 hgj
              refine ⟨by simp, j, hlt, he, ?_⟩
              intro i hi
              have h1 := hget i
              rw [Array.getElem?_eq_getElem (by omega)] at h1
              have hies : i < es.length := by
                have := (List.getElem?_eq_some_iff.1 hj).1
                omega
              rw [List.getElem?_eq_getElem hies] at h1
              simp only [Option.map_some, Option.some.injEq] at h1
              rw [h1]
              simp; omega
            refine one_of _ st h (same_ok H (cv := .tuple #[conc β k, conc β v]) ?_ (some_val ?_ rfl))
            · simp [execOp, ho, hxe, conc, hio, Instr.entry, getIter_at (P := P) hsc, getObj_at (P := P) hen, hback, hfind]
            · intro q hq
              simp only [AV.ids, AV.idsL, List.mem_append, List.not_mem_nil, or_false] at hq
              rcases hq with hq | hq
              · exact (hel _ (List.mem_of_getElem? hj)).1 q hq
              · exact (hel _ (List.mem_of_getElem? hj)).2 q hq
          · cases h
        · cases h
      · cases h
    · cases h
  · cases h
end
end Go.Abs
