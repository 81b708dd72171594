/- Memory's operations as the model runs them: loads, stores, new blocks. -/
import Derived.Test.YtbbepcgjinfljaaGreatDoorAbsD
import Derived.Laws.Sem
namespace Go.Abs
open Go.RowKit

/-- What slots and constants come to, in the model. -/
def evC (tmps : Array Value) : Operand → Value
  | .tmp t => tmps.getD t undef
  | .const v => v
  | .global g => .pointer (some ⟨g, 0, none⟩)
  | .func f => .func (.func f) #[] #[]

/-! ### Types. -/
def KindOK (P : Program) (d : TypeDesc) : TyK → Prop
  | .struct fs => ∃ fields : Array Field, d = .struct fields ∧ fields.toList.map (fun f => (f.type, f.offset)) = fs ∧ ∀ f ∈ fields.toList, ∃ inf, P.info? f.type = some inf ∧ inf.size ≠ 0
  | .array n e => d = .array n e
  | .slice e => d = .slice e
  | .map k e => d = .map k e
  | .int k => d = .int k
  | .iface => ∃ ms, d = .interface ms
  | .other => (∀ fs, d ≠ .struct fs) ∧ (∀ n e, d ≠ .array n e) ∧ (∀ ms, d ≠ .interface ms)

def beta0 : Beta := fun _ => ⟨0, 0, 0⟩
structure TyOK (P : Program) (t : TypeId) (i : TyI) : Prop where
  info : ∃ inf, P.info? t = some inf ∧ inf.size = i.size ∧ inf.zero = some (conc beta0 i.zero) ∧ inf.bytes ≤ 1048576
  noids : i.zero.ids = []
  pos : 0 < i.size
  zsize : i.zero.cells.length = i.size
  und : ∃ d, P.underlying t = some d ∧ KindOK P d i.kind

def TabTy (P : Program) (T : Tab) : Prop := ∀ t i, T.ty t = some i → TyOK P t i

theorem conc_noids {v : AV} (h : v.ids = []) (β : Beta) : conc beta0 v = conc β v := conc_congr β beta0 v (by rw [h]; intro i hi; cases hi)
theorem lt_noids {v : AV} (h : v.ids = []) (n : Nat) : v.lt n := by unfold AV.lt; rw [h]; intro i hi; cases hi

section
variable {P : Program} {w : World}
theorem run_typeInfo {t : TypeId} {inf : TypeInfo} (h : P.info? t = some inf) : (typeInfo t).run P w = .ok inf w := by
  unfold typeInfo; simp [h]
theorem run_underlying {t : TypeId} {d : TypeDesc} (h : P.underlying t = some d) : (underlying t).run P w = .ok d w := by
  unfold underlying; simp [h]
theorem TyOK.sizeOf {t : TypeId} {i : TyI} (h : TyOK P t i) : (sizeOf t).run P w = .ok i.size w := by
  obtain ⟨inf, h1, h2, h3, h4⟩ := h.info
  unfold Go.sizeOf; simp [run_typeInfo h1, h2]
theorem TyOK.zero {t : TypeId} {i : TyI} (h : TyOK P t i) : (zeroValue t).run P w = .ok (conc beta0 i.zero) w := by
  obtain ⟨inf, h1, h2, h3, h4⟩ := h.info
  unfold zeroValue; simp [run_typeInfo h1, h3]
theorem TyOK.isAgg {t : TypeId} {i : TyI} (h : TyOK P t i) : (isAgg t).run P w = .ok i.agg w := by
  obtain ⟨d, h1, h2⟩ := h.und
  unfold Go.isAgg
  simp only [Sem.run_bind, run_underlying h1, Result.andThen_ok]
  unfold TyI.agg
  cases hk : i.kind with
  | struct fs => rw [hk] at h2; obtain ⟨fields, rfl, _⟩ := h2; rfl
  | array n e => rw [hk] at h2; cases h2; rfl
  | slice e => rw [hk] at h2; cases h2; rfl
  | map k e => rw [hk] at h2; cases h2; rfl
  | int k => rw [hk] at h2; cases h2; rfl
  | iface => rw [hk] at h2; obtain ⟨ms, rfl⟩ := h2; rfl
  | other =>
    rw [hk] at h2
    cases d with
    | struct fs => exact absurd rfl (h2.1 fs)
    | array n e => exact absurd rfl (h2.2.1 n e)
    | _ => rfl
end

/-! ### Cells. -/
theorem add_none (b o n : Nat) : (⟨b, o, none⟩ : Addr).add n = ⟨b, o + n, none⟩ := by
  unfold Addr.add; split
  · rename_i h; simp [h]
  · rfl

theorem run_loadCellsFrom {P : Program} {w : World} {b o : Nat} : ∀ (vs : List Value) (i : Nat) (acc : Array Value),
    (∀ j v, vs[j]? = some v → w.cell? ⟨b, o + (i + j), none⟩ = some v) → (loadCellsFrom ⟨b, o, none⟩ i vs.length acc).run P w = .ok (acc ++ vs.toArray) w
  | [], i, acc, _ => by simp [loadCellsFrom]
  | v :: vs, i, acc, h => by
    have h0 := h 0 v (by simp)
    simp only [Nat.add_zero] at h0
    simp only [List.length_cons, loadCellsFrom, Sem.run_bind, run_load, add_none, h0, Result.andThen_ok]
    rw [run_loadCellsFrom vs (i + 1) (acc.push v) (fun j u hu => by
      have := h (j + 1) u (by simpa using hu)
      rw [show o + (i + 1 + j) = o + (i + (j + 1)) by omega]; exact this)]
    simp

theorem part_spec {l c : List AV} {off n : Nat} (h : part l off n = some c) : c = (l.drop off).take n ∧ c.length = n := by
  unfold part at h
  simp only [takeR_eq, dropR_eq, lenR_eq] at h
  split at h
  · rename_i hb
    rw [nbeq] at hb
    simp at h; subst h
    exact ⟨rfl, by simpa using hb⟩
  · cases h
theorem part_get {l c : List AV} {off n : Nat} (h : part l off n = some c) (i : Nat) (v : AV) (hv : c[i]? = some v) : l[off + i]? = some v := by
  obtain ⟨rfl, _⟩ := part_spec h
  rw [List.getElem?_take] at hv
  split at hv
  · rw [List.getElem?_drop] at hv; exact hv
  · cases hv

theorem load_ok {P : Program} {w0 : World} {β : Beta} {h : AH} {nx : Nat} {w : World} (H : WR w0 β h nx w) {t : TypeId} {i : TyI} (ht : TyOK P t i) {id off : Nat} {v : AV}
    (hl : h.load id off i = some v) : (loadVar t ⟨(β id).b, (β id).o + off, none⟩).run P w = .ok (conc β v) w ∧ v.lt nx := by
  unfold AH.load at hl
  split at hl
  · rename_i l hc
    have hg := cells_get hc
    split at hl
    · rename_i ha
      split at hl
      · rename_i c hp
        simp at hl; subst hl
        have hcell : ∀ j u, (concL β c)[j]? = some u → w.cell? ⟨(β id).b, (β id).o + off + (0 + j), none⟩ = some u := by
          intro j u hu
          rw [concL_map, List.getElem?_map] at hu
          cases hcj : c[j]? with
          | none => rw [hcj] at hu; cases hu
          | some av =>
            rw [hcj] at hu; simp at hu; subst hu
            have := (H.cell hg (part_get hp j av hcj)).1
            rw [show (β id).o + off + (0 + j) = (β id).o + (off + j) by omega]; exact this
        have hlen : (concL β c).length = i.size := by rw [concL_map, List.length_map]; exact (part_spec hp).2
        have hrun := run_loadCellsFrom (P := P) (w := w) (b := (β id).b) (o := (β id).o + off) (concL β c) 0 #[] hcell
        refine ⟨?_, ?_⟩
        · unfold loadVar loadCells
          simp only [Sem.run_bind, ht.isAgg, ha, Result.andThen_ok, if_true, ht.sizeOf, Sem.run_ite]
          rw [← hlen, hrun]
          simp [conc]
        · intro k hk
          simp only [AV.ids] at hk
          obtain ⟨u, hu, hk⟩ := idsL_mem.1 hk
          obtain ⟨j, hj⟩ := List.getElem?_of_mem hu
          exact (H.cell hg (part_get hp j u hj)).2 k hk
      · cases hl
    · rename_i ha
      rw [getR_eq] at hl
      obtain ⟨h1, h2⟩ := H.cell hg hl
      refine ⟨?_, h2⟩
      unfold loadVar
      simp only [Sem.run_bind, ht.isAgg, ha, Result.andThen_ok, Sem.run_ite]
      simp [h1]
  · cases hl

/-! ### Stores. -/
def setL (l : List AV) (off : Nat) : List AV → List AV
  | [] => l
  | a :: r => setL (l.set off a) (off + 1) r
theorem setL_length (m : List AV) : ∀ (l : List AV) (off : Nat), (setL l off m).length = l.length := by
  induction m with
  | nil => intro l off; rfl
  | cons a r ih => intro l off; simp [setL, ih]
theorem setL_eq (m : List AV) : ∀ (l : List AV) (off : Nat), off + m.length ≤ l.length → setL l off m = l.take off ++ m ++ l.drop (off + m.length) := by
  induction m with
  | nil => intro l off h; simp [setL]
  | cons a r ih =>
    intro l off h
    simp only [List.length_cons] at h
    simp only [setL]
    rw [ih (l.set off a) (off + 1) (by simp; omega)]
    have h1 : (l.set off a).take (off + 1) = l.take off ++ [a] := by
      rw [List.take_add_one, List.take_set]
      have : (l.set off a)[off]? = some a := by rw [List.getElem?_set]; simp; omega
      rw [this, List.set_eq_of_length_le (by simp; omega)]
      rfl
    have h2 : (l.set off a).drop (off + 1 + r.length) = l.drop (off + (r.length + 1)) := by
      rw [List.drop_set_of_lt (by omega)]; congr 1; omega
    rw [h1, h2]; simp [List.append_assoc]
theorem splice_spec {l m l' : List AV} {off : Nat} (h : splice l off m = some l') : off + m.length ≤ l.length ∧ l' = setL l off m := by
  unfold splice at h
  simp only [lenR_eq, appR_eq, takeR_eq, dropR_eq] at h
  split at h
  · rename_i hb
    have hle : off + m.length ≤ l.length := Nat.le_of_ble_eq_true hb
    simp at h
    exact ⟨hle, by rw [setL_eq m l off hle, ← h]; simp [List.append_assoc]⟩
  · cases h

theorem oneCell_conc {β : Beta} {v : AV} (h : flat v = true) : (conc β v).oneCell' = true := by
  cases v <;> first
    | rfl
    | (simp [flat] at h; done)
    | (simp only [conc]; split <;> rfl)

theorem AH.put_put (h : AH) (id : Nat) (b c : AB) : (h.put id b).put id c = h.put id c := by
  induction h with
  | nil => rfl
  | cons e r ih =>
    rw [AH.put_cons, AH.put_cons]
    by_cases he : e.1 = id
    · rw [if_pos he, if_pos he, AH.put_cons, if_pos (show (e.1, b).1 = id from he)]
    · rw [if_neg he, if_neg he, AH.put_cons, if_neg he, ih]
theorem AH.put_self (h : AH) (id : Nat) (b : AB) (hg : h.get id = some b) : h.put id b = h := by
  induction h with
  | nil => rfl
  | cons e r ih =>
    rw [AH.get_cons] at hg
    rw [AH.put_cons]
    by_cases he : e.1 = id
    · rw [if_pos he] at hg ⊢; cases hg; rfl
    · rw [if_neg he] at hg ⊢; rw [ih hg]

theorem storeCells_ok {P : Program} {w0 : World} {β : Beta} {nx id : Nat} (m : List AV) : ∀ (h : AH) (w : World) (l : List AV) (off i : Nat), WR w0 β h nx w → h.get id = some (.cells l) →
    off + i + m.length ≤ l.length → ltL nx m → (∀ v ∈ m, flat v = true) →
    ∃ w', (storeCells ⟨(β id).b, (β id).o + off, none⟩ (concL β m) i).run P w = .ok () w' ∧ WR w0 β (h.put id (.cells (setL l (off + i) m))) nx w' := by
  induction m with
  | nil =>
    intro h w l off i H hg _ _ _
    exact ⟨w, rfl, by simpa [setL, AH.put_self h id _ hg] using H⟩
  | cons a r ih =>
    intro h w l off i H hg hlen hlt hf
    simp only [List.length_cons] at hlen
    have hi : off + i < l.length := by omega
    obtain ⟨u, hu⟩ : ∃ u, l[off + i]? = some u := ⟨l[off + i], by simp [hi]⟩
    have hc := (H.cell hg hu).1
    have hfz := H.frozen hg ((β id).o + (off + i))
    have ha := hlt a (by simp)
    have H1 := H.setCell hg hi ha
    have hg1 : (h.put id (.cells (l.set (off + i) a))).get id = some (.cells (l.set (off + i) a)) := by rw [AH.get_put hg]; simp
    obtain ⟨w', hr, H2⟩ := ih _ _ (l.set (off + i) a) off (i + 1) H1 hg1 (by simp; omega) (fun v hv => hlt v (by simp [hv])) (fun v hv => hf v (by simp [hv]))
    refine ⟨w', ?_, ?_⟩
    · simp only [concL, storeCells, Sem.run_bind, add_none]
      rw [run_store P w _ _ _ (oneCell_conc (hf a (by simp)))]
      rw [show (β id).o + off + i = (β id).o + (off + i) by omega]
      simp only [hc, hfz, Bool.false_eq_true, if_false, Result.andThen_ok]
      exact hr
    · rw [AH.put_put] at H2
      simpa [setL, Nat.add_assoc] using H2

theorem cells_conc (β : Beta) (v : AV) : (conc β v).cells.toList = concL β v.cells := by
  cases v <;> first
    | rfl
    | (simp only [conc, AV.cells, concL]; split <;> rfl)
    | simp [conc, AV.cells, Value.cells]

theorem cells_lt {v : AV} {n : Nat} (h : v.lt n) : ltL n v.cells := by
  cases v <;> first
    | (intro u hu; simp [AV.cells] at hu; subst hu; exact h)
    | (intro u hu i hi; simp only [AV.cells] at hu; exact h i (by simp only [AV.ids]; exact idsL_mem.2 ⟨u, hu, hi⟩))

theorem store_ok {P : Program} {w0 : World} {β : Beta} {h h' : AH} {nx : Nat} {w : World} (H : WR w0 β h nx w) {t : TypeId} {i : TyI} (ht : TyOK P t i) {id off : Nat} {v : AV} (hv : v.lt nx)
    (hs : h.store id off i v = some h') : ∃ w', (storeVar t ⟨(β id).b, (β id).o + off, none⟩ (conc β v)).run P w = .ok () w' ∧ WR w0 β h' nx w' := by
  unfold AH.store at hs
  split at hs
  · rename_i l hc
    have hg := cells_get hc
    split at hs
    · rename_i hsz
      rw [nbeq, lenR_eq] at hsz
      have hsz : v.cells.length = i.size := of_decide_eq_true hsz
      split at hs
      · rename_i hf
        rw [allR_eq, List.all_eq_true] at hf
        split at hs
        · rename_i l' hsp
          simp at hs; subst hs
          obtain ⟨hle, rfl⟩ := splice_spec hsp
          obtain ⟨w', hr, H'⟩ := storeCells_ok (P := P) v.cells h w l off 0 H hg (by omega) (cells_lt hv) hf
          refine ⟨w', ?_, by simpa using H'⟩
          unfold storeVar
          have e : (conc β v).cells.size = i.size := by
            rw [← Array.length_toList, cells_conc, concL_map, List.length_map]; exact hsz
          simp only [Sem.run_bind, ht.sizeOf, Result.andThen_ok, Sem.run_ite, e, ne_eq, not_true_eq_false, if_false]
          rw [cells_conc]
          simpa using hr
        · cases hs
      · cases hs
    · cases hs
  · cases hs
end Go.Abs
