/- The operations on slices, arrays and structs. -/
import Derived.Test.YtbbepcgjinfljaaGreatDoorAbsG
import Derived.Laws.MakeOwn
import Derived.Laws.Append
import Derived.Laws.AppendOwn
import Derived.Laws.Tables
namespace Go.Abs
open Go.RowKit

section
variable {P : Program} {T : Tab} {w0 : World} {β : Beta} {st : ASt} {tmps : Array Value} {defers : List Deferred} {w : World} {o : Oper}

theorem natOf_ok (H : SR w0 β st tmps defers w) {x : Operand} {n : Nat} (h : natOf (st.ev x) = some n) : evC tmps x = .int .i64 (Int.ofNat n) := by
  unfold natOf at h
  split at h
  · rename_i m hx
    unfold toNat? at h
    split at h
    · simp only [Option.some.injEq] at h; subst h
      exact (ev_ok H hx).2
    · cases h
  · cases h

theorem elemSize_ok (hT : TabOK P T) {t : TypeId} {z : Nat} (h : elemSize T (T.ty t) = some z) : ∃ e te, P.underlying t = some (.slice e) ∧ T.ty e = some te ∧ te.size = z := by
  unfold elemSize at h
  split at h
  · rename_i e s zz ht
    obtain ⟨d, hd, hk⟩ := (hT.ty t _ ht).und
    cases hk
    split at h
    · rename_i te hte
      simp only [Option.some.injEq] at h
      exact ⟨e, te, hd, hte, h⟩
    · cases h
  · cases h

theorem fits_ok {h : AH} {nx : Nat} (H : WR w0 β h nx w) {id off len sz : Nat} (hf : fits h id off len sz = true) : (β id).o + off + len * sz ≤ (β id).size ∧ 0 < sz := by
  unfold fits at hf
  split at hf
  · rename_i l hc
    have hg := cells_get hc
    simp only [Bool.and_eq_true, nbeq, Bool.not_eq_true', decide_eq_false_iff_not, lenR_eq] at hf
    obtain ⟨h1, h2, hl, c, t, h3, h4, h5, h6⟩ := H.here id _ hg
    have := Nat.le_of_ble_eq_true hf.1
    omega
  · cases hf

theorem conc_slice (β : Beta) (id off len sz : Nat) : conc β (.slice id off len sz) = .slice (some ⟨(β id).b, (β id).o + off, none⟩) len (((β id).size - ((β id).o + off)) / sz) := by rw [conc]

theorem sub_div {a n s : Nat} (_hs : 0 < s) : (a - n * s) / s = a / s - n := by
  rw [Nat.mul_comm]; exact Nat.sub_mul_div _ _ _

theorem opSliceLo_ok (hT : TabOK P T) (H : SR w0 β st tmps defers w) {t : TypeId} {x l : Operand} (ho : o.op = .slice t x (some l) none none) {steps : List Step}
    (h : opSliceLo (st.ev x) (elemSize T (T.ty t)) (natOf (st.ev l)) st = some steps) : ∃ s ∈ steps, StepOK P T w0 β st tmps w o s := by
  unfold opSliceLo at h
  split at h
  · rename_i id off len sz hx
    split at h
    · rename_i n hn
      split at h
      · rename_i z hz
        split at h
        · rename_i hb
          simp only [Bool.and_eq_true, nbeq, decide_eq_true_eq] at hb
          obtain ⟨rfl, hf⟩ := hb
          obtain ⟨hfit, hpos⟩ := fits_ok H.wr hf
          obtain ⟨e, te, hu, hte, hsz⟩ := elemSize_ok hT hz
          have hi := natOf_ok H hn
          obtain ⟨hl, he⟩ := ev_ok H hx
          have hs : (Go.sizeOf e).run P w = .ok z w := by rw [(hT.ty e te hte).sizeOf, hsz]
          have hcap : len ≤ ((β id).size - ((β id).o + off)) / z := by
            rw [Nat.le_div_iff_mul_le hpos]; omega
          have hrun : ∀ (hnl : n ≤ len), (execOp (evC tmps) o).run P w = .ok (.value (sliced (some ⟨(β id).b, (β id).o + off, none⟩) n len (((β id).size - ((β id).o + off)) / z) z)) w := by
            intro hnl
            have h0 : (0 : Int) ≤ Int.ofNat n := by simp
            have h1 : Int.ofNat n ≤ (len : Int) := by simpa using hnl
            simp [execOp, ho, hi, he, conc_slice, Instr.sliceAt, Instr.slice, run_underlying hu, Instr.sliceBounds, run_sliceBound, hs, sliced, hnl]
          split at h
          · rename_i hlt
            have hlt : n < len := by simpa [Nat.blt_eq] using hlt
            refine one_of _ st h (same_ok H (hrun (by omega)) (some_val (by intro k hk; exact hl k (by simpa [AV.ids] using hk)) ?_))
            have hne : ¬ ((β id).size - ((β id).o + off)) / z = n := by omega
            rw [conc_slice]
            simp only [sliced, hne, if_false, Option.map_some, add_none]
            have e1 : (β id).size - ((β id).o + (off + n * z)) = (β id).size - ((β id).o + off) - n * z := by omega
            rw [e1, sub_div hpos, Nat.add_assoc]
          · split at h
            · rename_i heq
              rw [nbeq] at heq
              have heq : n = len := of_decide_eq_true heq
              subst heq
              refine one_of _ st h (same_ok H (hrun (by omega)) (some_val (by intro k hk; exact hl k (by simpa [AV.ids] using hk)) ?_))
              simp only [sliced, conc, Nat.sub_self]
              split
              · rename_i hc; simp only [hc, Nat.sub_self]
              · simp only [Option.map_some, add_none]
            · cases h
        · cases h
      · cases h
    · cases h
  · cases h

theorem opSliceHi_ok (hT : TabOK P T) (H : SR w0 β st tmps defers w) {t : TypeId} {x l : Operand} (ho : o.op = .slice t x none (some l) none) {steps : List Step}
    (h : opSliceHi (st.ev x) (elemSize T (T.ty t)) (natOf (st.ev l)) st = some steps) : ∃ s ∈ steps, StepOK P T w0 β st tmps w o s := by
  unfold opSliceHi at h
  split at h
  · rename_i id off len sz hx
    split at h
    · rename_i n hn
      split at h
      · rename_i z hz
        split at h
        · rename_i hb
          simp only [Bool.and_eq_true, nbeq, decide_eq_true_eq, Bool.not_eq_true', decide_eq_false_iff_not] at hb
          obtain ⟨⟨⟨rfl, hf⟩, hnl⟩, hn0⟩ := hb
          have hnl := Nat.le_of_ble_eq_true hnl
          obtain ⟨hfit, hpos⟩ := fits_ok H.wr hf
          obtain ⟨e, te, hu, hte, hsz⟩ := elemSize_ok hT hz
          have hi := natOf_ok H hn
          obtain ⟨hl, he⟩ := ev_ok H hx
          have hs : (Go.sizeOf e).run P w = .ok z w := by rw [(hT.ty e te hte).sizeOf, hsz]
          have hcap : len ≤ ((β id).size - ((β id).o + off)) / z := by
            rw [Nat.le_div_iff_mul_le hpos]; omega
          have hnc : n ≤ ((β id).size - ((β id).o + off)) / z := by omega
          have hne : ¬ ((β id).size - ((β id).o + off)) / z = 0 := by omega
          refine one_of _ st h (same_ok H (cv := conc β (.slice id off n z)) ?_ (some_val (by intro k hk; exact hl k (by simpa [AV.ids] using hk)) rfl))
          have hnc' : (n : Int) ≤ ((((β id).size - ((β id).o + off)) / z : Nat) : Int) := by omega
          have hb : (Instr.sliceBound (.int .i64 (Int.ofNat n)) (((β id).size - ((β id).o + off)) / z) .sliceAcap).run P w = .ok n w := by
            rw [run_sliceBound _ _ _ _ _ (by simp) (by simpa using hnc')]; rfl
          simp only [execOp, ho, hi, he, conc_slice, Instr.sliceAt, Instr.slice, run_underlying hu, Instr.sliceBounds, Sem.run_bind, Result.andThen_ok, Option.map_some, Option.map_none, Sem.run_pure, if_true, hb, hs]
          simp [hne, add_none]
        · cases h
      · cases h
    · cases h
  · cases h

theorem opSlice_ok (hT : TabOK P T) (H : SR w0 β st tmps defers w) {t : TypeId} {x : Operand} {lo hi mx : Option Operand} (ho : o.op = .slice t x lo hi mx) {steps : List Step}
    (h : opSlice (st.ev x) (elemSize T (T.ty t)) lo hi mx st = some steps) : ∃ s ∈ steps, StepOK P T w0 β st tmps w o s := by
  unfold opSlice at h
  split at h
  · split at h
    · split at h
      · exact opSliceLo_ok hT H ho h
      · cases h
    · split at h
      · exact opSliceHi_ok hT H ho h
      · cases h
  · cases h

theorem opIndexAddr_ok (hT : TabOK P T) (H : SR w0 β st tmps defers w) {t : TypeId} {x i : Operand} (ho : o.op = .indexAddr t x i) {steps : List Step}
    (h : opIndexAddr T (T.ty t) (st.ev x) (natOf (st.ev i)) st = some steps) : ∃ s ∈ steps, StepOK P T w0 β st tmps w o s := by
  unfold opIndexAddr at h
  split at h
  · rename_i e s zz ht
    obtain ⟨d, hd, hk⟩ := (hT.ty t _ ht).und
    cases hk
    split at h
    · rename_i id off len sz hx
      split at h
      · rename_i n hn
        split at h
        · rename_i te hte
          split at h
          · rename_i hb
            simp only [Bool.and_eq_true, nbeq, decide_eq_true_eq, Nat.blt_eq] at hb
            obtain ⟨hlt, rfl⟩ := hb
            have hi := natOf_ok H hn
            obtain ⟨hl, he⟩ := ev_ok H hx
            have hs : (Go.sizeOf e).run P w = .ok te.size w := (hT.ty e te hte).sizeOf
            refine one_of _ st h (same_ok H (cv := .pointer (some ⟨(β id).b, (β id).o + (off + n * te.size), none⟩)) ?_ (some_val (by intro k hk; exact hl k (by simpa [AV.ids] using hk)) (by simp [conc])))
            simp [execOp, ho, hi, he, conc_slice, Instr.indexAt, run_underlying hd, asIntOf, hs, hlt, add_none, Nat.add_assoc]
          · cases h
        · cases h
      · cases h
    · cases h
  · rename_i m e s zz ht
    obtain ⟨d, hd, hk⟩ := (hT.ty t _ ht).und
    cases hk
    split at h
    · rename_i id off hx
      split at h
      · rename_i n hn
        split at h
        · rename_i te hte
          split at h
          · rename_i hb
            simp only [Nat.blt_eq] at hb
            have hi := natOf_ok H hn
            obtain ⟨hl, he⟩ := ev_ok H hx
            have hs : (Go.sizeOf e).run P w = .ok te.size w := (hT.ty e te hte).sizeOf
            refine one_of _ st h (same_ok H (cv := .pointer (some ⟨(β id).b, (β id).o + (off + n * te.size), none⟩)) ?_ (some_val (by intro k hk; exact hl k (by simpa [AV.ids] using hk)) (by simp [conc])))
            simp [execOp, ho, hi, he, conc, Instr.indexAt, run_underlying hd, asIntOf, Instr.sureAddr, hs, hb, add_none, Nat.add_assoc]
          · cases h
        · cases h
      · cases h
    · cases h
  · cases h

theorem opIndex_ok (hT : TabOK P T) (H : SR w0 β st tmps defers w) {t : TypeId} {x i : Operand} (ho : o.op = .index t x i) {steps : List Step}
    (h : opIndex T (T.ty t) (st.ev x) (natOf (st.ev i)) st = some steps) : ∃ s ∈ steps, StepOK P T w0 β st tmps w o s := by
  unfold opIndex at h
  split at h
  · rename_i m e s zz ht
    obtain ⟨d, hd, hk⟩ := (hT.ty t _ ht).und
    cases hk
    split at h
    · rename_i cs hx
      split at h
      · rename_i n hn
        split at h
        · rename_i te hte
          split at h
          · rename_i hb
            simp only [Bool.and_eq_true, Nat.blt_eq] at hb
            obtain ⟨hlt, hagg⟩ := hb
            unfold aggV at h
            split at h
            · rename_i c hp
              have hi := natOf_ok H hn
              obtain ⟨hl, he⟩ := ev_ok H hx
              have hty := hT.ty e te hte
              have hs : (Go.sizeOf e).run P w = .ok te.size w := hty.sizeOf
              have ha : (Go.isAgg e).run P w = .ok true w := by rw [hty.isAgg, hagg]
              obtain ⟨hc, hlen⟩ := part_spec hp
              refine one_of _ st h (same_ok H (cv := conc β (.agg c)) ?_ (some_val ?_ rfl))
              · have hlt' : (n : Int) < m := by omega
                simp [execOp, ho, hi, he, conc, Instr.index, run_underlying hd, asIntOf, Go.part, hs, ha, hlt]
                rw [concL_map, concL_map, hc, List.map_take, List.map_drop]
              · intro k hk
                simp only [AV.ids] at hk
                obtain ⟨u, hu, hk⟩ := idsL_mem.1 hk
                refine hl k ?_
                simp only [AV.ids]
                refine idsL_mem.2 ⟨u, ?_, hk⟩
                rw [hc] at hu
                exact List.mem_of_mem_drop (List.mem_of_mem_take hu)
            · cases h
          · cases h
        · cases h
      · cases h
    · cases h
  · cases h

/-! #### What is built of parts -/
theorem concL_set (β : Beta) (l : List AV) (i : Nat) (v : AV) : concL β (l.set i v) = (concL β l).set i (conc β v) := by
  rw [concL_map, concL_map, List.map_set]

theorem fold_set (β : Beta) (off : Nat) : ∀ (m : List AV) (k : Nat) (cells : List AV),
    ((concL β m).zipIdx k).foldl (fun (cs : Array Value) (x : Value × Nat) => cs.setIfInBounds (off + x.2) x.1) (concL β cells).toArray = (concL β (setL cells (off + k) m)).toArray := by
  intro m
  induction m with
  | nil => intro k cells; simp [concL, setL]
  | cons a r ih =>
    intro k cells
    simp only [concL, List.zipIdx_cons, List.foldl_cons, setL]
    rw [← concL_setIf, ih (k + 1)]
    rfl
where
  concL_setIf {β : Beta} {l : List AV} {i : Nat} {v : AV} : (concL β (l.set i v)).toArray = (concL β l).toArray.setIfInBounds i (conc β v) := by
    rw [concL_set, List.setIfInBounds_toArray]

theorem fill_ok {β : Beta} {place place' : Nat → Option (Nat × Nat)} (hp : ∀ i q, place i = some q → place' i = some q) : ∀ (ps : List (Nat × AV)) (cells c : List AV), fillA place ps cells = some c →
    Instr.fill place' (concL β cells).toArray (ps.map fun p => (p.1, conc β p.2)) = some (concL β c).toArray := by
  intro ps
  induction ps with
  | nil => intro cells c h; simp only [fillA, lrec_nil, Option.some.injEq] at h; subst h; simp [Instr.fill]
  | cons p r ih =>
    intro cells c h
    simp only [fillA, lrec_cons] at h
    split at h
    · cases h
    · rename_i q hq
      split at h
      · rename_i hsz
        rw [nbeq, lenR_eq] at hsz
        have hsz : p.2.cells.length = q.2 := of_decide_eq_true hsz
        split at h
        · rename_i c' hs
          obtain ⟨hle, rfl⟩ := splice_spec hs
          have ih' := ih _ c (by simpa only [fillA] using h)
          obtain ⟨off, size⟩ := q
          have hlen : (conc β p.2).cells.size = p.2.cells.length := by rw [← Array.length_toList, cells_conc, concL_map, List.length_map]
          have hcl : (concL β cells).toArray.size = cells.length := by simp [concL_map]
          simp only [List.map_cons, Instr.fill, hp _ _ hq]
          simp only [hlen, hcl]
          have h1 : (decide (p.2.cells.length ≠ size) || decide (off + p.2.cells.length > cells.length)) = false := by
            simp only [Bool.or_eq_false_iff, decide_eq_false_iff_not]
            exact ⟨fun h => h hsz, by simp only at hle; omega⟩
          rw [h1]
          simp only [Bool.false_eq_true, if_false]
          rw [← ih']
          congr 1
          rw [← Array.foldl_toList, Array.toList_zipIdx, cells_conc]
          exact fold_set β off p.2.cells 0 cells
        · cases h
      · cases h

theorem fill_lt {n : Nat} {place : Nat → Option (Nat × Nat)} : ∀ (ps : List (Nat × AV)) (cells c : List AV), fillA place ps cells = some c → ltL n cells → (∀ p ∈ ps, p.2.lt n) → ltL n c ∧ c.length = cells.length := by
  intro ps
  induction ps with
  | nil => intro cells c h hl _; simp only [fillA, lrec_nil, Option.some.injEq] at h; subst h; exact ⟨hl, rfl⟩
  | cons p r ih =>
    intro cells c h hl hps
    simp only [fillA, lrec_cons] at h
    split at h
    · cases h
    · rename_i q hq
      split at h
      · split at h
        · rename_i c' hs
          obtain ⟨hle, rfl⟩ := splice_spec hs
          obtain ⟨h1, h2⟩ := ih _ c (by simpa only [fillA] using h) (setL_lt hl (cells_lt (hps p (by simp)))) (fun x hx => hps x (by simp [hx]))
          exact ⟨h1, by rw [h2, setL_length]⟩
        · cases h
      · cases h
where
  setL_lt {n : Nat} : ∀ {m l : List AV} {off : Nat}, ltL n l → ltL n m → ltL n (setL l off m) := by
    intro m
    induction m with
    | nil => intro l off h _; exact h
    | cons a r ih =>
      intro l off h hm
      refine ih ?_ (fun v hv => hm v (by simp [hv]))
      intro v hv
      rcases List.mem_or_eq_of_mem_set hv with hv | hv
      · exact h v hv
      · exact hv ▸ hm a (by simp)

theorem evParts_ok (H : SR w0 β st tmps defers w) : ∀ {l : List (Nat × Operand)} {ps : List (Nat × AV)}, evParts st l = some ps →
    (∀ p ∈ ps, p.2.lt st.nx) ∧ l.map (fun p => (p.1, evC tmps p.2)) = ps.map fun p => (p.1, conc β p.2) := by
  intro l
  induction l with
  | nil => intro vs h; simp only [evParts, lrec_nil, Option.some.injEq] at h; subst h; exact ⟨fun v hv => (List.not_mem_nil hv).elim, rfl⟩
  | cons a r ih =>
    intro vs h
    simp only [evParts, lrec_cons] at h
    split at h
    · rename_i v hv
      split at h
      · rename_i l hl
        simp only [Option.some.injEq] at h; subst h
        obtain ⟨h1, h2⟩ := ih (by simpa only [evParts] using hl)
        obtain ⟨h3, h4⟩ := ev_ok H hv
        refine ⟨?_, by simp [h2, h4]⟩
        intro u hu
        rcases List.mem_cons.1 hu with rfl | hu
        · exact h3
        · exact h1 u hu
      · cases h
    · cases h

theorem places_ok {fs : List (TypeId × Nat)} (hT : TabOK P T) {fields : Array Field} (hfs : fields.toList.map (fun f => (f.type, f.offset)) = fs)
    (hpos : ∀ f ∈ fields.toList, ∃ inf, P.info? f.type = some inf ∧ inf.size ≠ 0) :
    ∃ places : List (Nat × Nat), fields.toList.mapM (fun f => (P.info? f.type).map fun i => (f.offset, i.size)) = some places ∧ ∀ i q, placeF T fs i = some q → places[i]? = some q := by
  subst hfs
  generalize fields.toList = l at hpos
  induction l with
  | nil => exact ⟨[], rfl, by intro i q h; simp [placeF] at h⟩
  | cons f r ih =>
    obtain ⟨places, h1, h2⟩ := ih (fun g hg => hpos g (by simp [hg]))
    obtain ⟨inf, hi, _⟩ := hpos f (by simp)
    refine ⟨(f.offset, inf.size) :: places, by simp [List.mapM_cons, hi, h1], ?_⟩
    intro i q h
    cases i with
    | zero =>
      simp only [placeF, List.map_cons, getR_eq, List.getElem?_cons_zero] at h
      split at h
      · rename_i t ht
        simp only [Option.some.injEq] at h; subst h
        obtain ⟨inf', hi', hs', _⟩ := (hT.ty _ _ ht).info
        rw [hi] at hi'; cases hi'
        simp [hs']
      · cases h
    | succ i =>
      have : placeF T (r.map fun f => (f.type, f.offset)) i = some q := by
        simpa only [placeF, List.map_cons, getR_eq, List.getElem?_cons_succ] using h
      simpa using h2 i q this

theorem zero_cells {t : TypeId} {i : TyI} (h : TyOK P t i) (β : Beta) : ∃ inf z, P.info? t = some inf ∧ inf.zero = some z ∧ z.cells = (concL β i.zero.cells).toArray ∧ inf.size = i.size := by
  obtain ⟨inf, h1, h2, h3, h4⟩ := h.info
  refine ⟨inf, _, h1, h3, ?_, h2⟩
  apply Array.ext'
  rw [conc_noids h.noids β, cells_conc]

theorem opBuild_ok (hT : TabOK P T) (H : SR w0 β st tmps defers w) {t : TypeId} {ps : Array (Nat × Operand)} (ho : o.op = .build t ps) {steps : List Step}
    (h : opBuild T (T.ty t) (evParts st ps.toList) st = some steps) : ∃ s ∈ steps, StepOK P T w0 β st tmps w o s := by
  have fin : ∀ {i : TyI} {l : List (Nat × AV)} {place : Nat → Option (Nat × Nat)}, T.ty t = some i → evParts st ps.toList = some l → aggV (fillA place l i.zero.cells) st = some steps →
      (∀ c, fillA place l i.zero.cells = some c → P.built t (l.map fun p => (p.1, conc β p.2)) = some (concL β c).toArray) → ∃ s ∈ steps, StepOK P T w0 β st tmps w o s := by
    intro i l place ht hl h hb
    unfold aggV at h
    split at h
    · rename_i c hc
      obtain ⟨h1, h2⟩ := evParts_ok H hl
      have ty := hT.ty t i ht
      obtain ⟨hlt, _⟩ := fill_lt l _ c hc (cells_lt (lt_noids ty.noids st.nx)) h1
      refine one_of _ st h (same_ok H (cv := conc β (.agg c)) ?_ (some_val (by intro k hk; simp only [AV.ids] at hk; obtain ⟨u, hu, hk⟩ := idsL_mem.1 hk; exact hlt u hu k hk) rfl))
      have hr := run_build (P := P) w t (ps.map fun (i, x) => (i, evC tmps x)) _ (by
        have : (ps.map fun (i, x) => (i, evC tmps x)).toList = l.map fun p => (p.1, conc β p.2) := by
          rw [Array.toList_map]; exact h2
        rw [this]; exact hb c hc)
      simp only [execOp, ho, Sem.run_bind, hr, Result.andThen_ok, Sem.run_pure, conc]
    · cases h
  unfold opBuild at h
  split at h
  · rename_i fs s zz ht
    split at h
    · rename_i l hl
      refine fin ht hl h fun c hc => ?_
      have ty := hT.ty t _ ht
      obtain ⟨d, hd, hk⟩ := ty.und
      obtain ⟨fields, rfl, hfs, hpos⟩ := hk
      obtain ⟨places, hp1, hp2⟩ := places_ok hT hfs hpos
      obtain ⟨inf, z, hi, hz, hzc, _⟩ := zero_cells ty β
      unfold Program.built
      simp only [hi, hd, hz, hp1, hzc]
      exact fill_ok (place' := fun x => places.toArray[x]?) (fun i q h => by simpa using hp2 i q h) l _ c hc
    · cases h
  · rename_i n e s zz ht
    split at h
    · rename_i l hl
      split at h
      · rename_i te hte
        refine fin ht hl h fun c hc => ?_
        have ty := hT.ty t _ ht
        obtain ⟨d, hd, hk⟩ := ty.und
        cases hk
        obtain ⟨inf, z, hi, hz, hzc, _⟩ := zero_cells ty β
        obtain ⟨inf', hi', hs', _⟩ := (hT.ty e te hte).info
        unfold Program.built
        simp only [hi, hd, hz, hi', hzc, hs']
        exact fill_ok (fun _ _ h => h) l _ c hc
      · cases h
    · cases h
  · cases h
end
end Go.Abs
