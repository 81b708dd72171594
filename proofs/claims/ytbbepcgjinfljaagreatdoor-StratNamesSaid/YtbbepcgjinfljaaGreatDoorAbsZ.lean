/- Ranges over functions, and their rounds. -/
import Derived.Test.YtbbepcgjinfljaaGreatDoorAbsL
import Derived.RangeFuncRecord
namespace Go.Abs
open Go.RowKit

section
variable {P : Program} {T : Tab} {call yield : CallT} {w0 : World} {b : Frame}

theorem below_putObj {B r : Nat} {w : World} (h : B ≤ r) (o' : Obj) : Below B w (w.putObj r o') :=
  ⟨rfl, rfl, rfl, by simp [World.putObj], fun k hk => World.putObj_heap_other (by omega)⟩

theorem WR.turnObj {β : Beta} {h : AH} {nx : Nat} {w : World} (H : WR w0 β h nx w) {id : Nat} {B B' : AB} (hg : h.get id = some B) (o : Obj)
    (hB : BlockAt β nx (w.putObj (β id).b o) id B') : WR w0 β (h.put id B') nx (w.putObj (β id).b o) :=
  H.turn hg (below_putObj (H.here id B hg).2.1 o) (fun _k hk => World.putObj_heap_other hk) hB

/-- A block is given up: whatever becomes of it. -/
theorem WR.delObj {β : Beta} {h : AH} {nx : Nat} {w : World} (H : WR w0 β h nx w) {id : Nat} {B : AB} (hg : h.get id = some B) (o : Obj) : WR w0 β (h.del id) nx (w.putObj (β id).b o) := by
  have hs := H.sub (AH.del_sub h id)
  refine hs.frame (below_putObj (H.here id B hg).2.1 o) fun j Bj hj => World.putObj_heap_other ?_
  obtain ⟨hne, hj'⟩ := AH.get_del H.nd hj
  exact H.apart j id Bj B hj' hg hne

theorem finish_fat_range (a : Act) (l : Nat) (k : List Item) (v : Value) : (fat b a (.inRangeFunc l :: k)).finish v = fat b a (.endRangeFunc l :: k) := by
  simp [Frame.finish, fat]

theorem st_endRange {a : Act} {l : Nat} {k : List Item} {cs : List Frame} {w w' : World} {jump : Option Code} (h : (Instr.endLoop l).run P w = .ok jump w') :
    step P (lone (fat b a (.endRangeFunc l :: k)) cs w) = .next (lone (fat b a ((jump.map Item.code).toList ++ k)) cs w') :=
  stepR_endRangeFunc (b := b) (a := a) h

theorem st_range {a : Act} {k : List Item} {cs : List Frame} {w w1 w1' w2 : World} {g : Operand} {ps : Array Tmp} {assign body : Code} {l : Nat} {mark : List Deferred} {d : Deferred} {f : FuncId} {args : Array Value}
    (he : (Instr.enterLoop b.fn a.tmps ps assign body b.roundOf).run P w = .ok (l, mark) w1)
    (hres : (resolve (evC a.tmps) (rangeCall g l) 0).run P w1 = .ok d w1') (hinv : (invoke d.target d.args).run P w1' = .ok (.enter f args) w2) :
    step P (lone (fat b a (.code (.rangeFunc g ps assign body) :: k)) cs w) =
      .next (lone (Frame.enter P f args .normal) (fat b { a with defers := mark ++ a.defers } (.inRangeFunc l :: k) :: cs) w2) :=
  stepR_rangeFunc (b := b) (a := a) he (by
    have : a.eval = evC a.tmps := by funext x; cases x <;> rfl
    rw [this]; exact hres) hinv

theorem behindR_ok {d l : Nat} {st : ASt} {y : OutF} {outs : List OutC} (h : behindR d l st y = some outs) :
    (∃ v, y.1 = .panic v ∧ outs = [(.panic v, { st with heap := y.2.1, nx := y.2.2, defers := .coll d :: st.defers })]) ∨
    (∃ v r e, y.1 = .ret v ∧ y.2.1.get l = some (.loop r) ∧ r.busy = false ∧ outs = [(e, { st with heap := y.2.1.del l, nx := y.2.2, defers := .coll d :: st.defers })] ∧
      ((r.jump = none ∧ e = .normal) ∨ (r.jump = some .ret ∧ e = .ret) ∨ ∃ i, r.jump = some (.exit i) ∧ e = .exit i)) := by
  unfold behindR at h
  split at h
  · rename_i v hv
    simp only [Option.some.injEq] at h
    exact .inl ⟨v, hv, h.symm⟩
  · rename_i v hv
    split at h
    · rename_i r hr
      split at h
      · cases h
      · rename_i hb
        split at h
        · rename_i hj
          simp only [Option.some.injEq] at h
          exact .inr ⟨v, r, _, hv, hr, hb, h.symm, .inl ⟨hj, rfl⟩⟩
        · rename_i hj
          simp only [Option.some.injEq] at h
          exact .inr ⟨v, r, _, hv, hr, hb, h.symm, .inr (.inl ⟨hj, rfl⟩)⟩
        · rename_i i hj
          simp only [Option.some.injEq] at h
          exact .inr ⟨v, r, _, hv, hr, hb, h.symm, .inr (.inr ⟨i, hj, rfl⟩)⟩
        · cases h
    · cases h

theorem rangeA_ok (hT : TabOK P T) (hc : FuncOK P T call) {x : Ctx} (hx : CtxOK x b) {f : Operand} {params : Array Nat} {assign body : Code} :
    CodeOK P w0 b (fun st => rangeA x call (st.ev f) params.toList assign body st) (.rangeFunc f params assign body) := by
  intro cs k a β st w outs H h
  simp only [rangeA] at h
  split at h
  · rename_i g first cap hf
    split at h
    · cases h
    · rename_i hround
      have hro : b.roundOf = none := by
        have := hx.round; rw [hround] at this
        cases hb : b.roundOf with
        | none => rfl
        | some l => rw [hb] at this; cases this
      split at h
      · cases h
      · rename_i outsF hcall
        rw [appR_eq] at hcall
        obtain ⟨hfl, hfe⟩ := ev_ok H hf
        -- the two blocks
        have H1 := H.wr.alloc (.deferred (some [])) .defd 0 0 (by show (w.alloc _).heap[(upd β st.nx _ st.nx).b]? = _; rw [upd_same]; exact heap_alloc_new _ _)
        have hs1 : (w.alloc (.deferred (some []))).heap.size = w.heap.size + 1 := World.size_alloc _ _
        have E1 := upd_ext β st.nx ⟨w.heap.size, 0, 0⟩
        have E2 := upd_ext (upd β st.nx ⟨w.heap.size, 0, 0⟩) (st.nx + 1) ⟨(w.alloc (.deferred (some []))).heap.size, 0, 0⟩
        have E12 := E1.trans E2 (Nat.le_succ _)
        let rec0 : Loop := { state := .ready, pending := none, fn := b.fn, tmps := a.tmps, params := params, assign := assign, body := body, defers := w.heap.size }
        have H2 := H1.alloc (.loop rec0)
          (.loop { params := params.toList, assign := assign, body := body, fn := x.fn, n := st.n, rows := st.rows, jump := none, busy := false }) 0 0
          (by
            refine ⟨w.heap.size, a.tmps, ?_, H.size, H.rows.ext E12 (by omega)⟩
            rw [upd_same, heap_alloc_new]
            simp [rec0, hx.fn])
        rw [show st.nx + 1 + 1 = st.nx + 2 by omega] at H2
        obtain ⟨⟨fn, hfn, hbody⟩, hC⟩ := hc _ _ _ _ _ hcall
        have hargs : ltL (st.nx + 2) (first ++ .yield (st.nx + 1) :: cap) := by
          intro v hv i hi
          rcases List.mem_append.1 hv with hv | hv
          · have := hfl i (by simp only [AV.ids, List.mem_append]; exact .inl (idsL_mem.2 ⟨v, hv, hi⟩)); omega
          · rcases List.mem_cons.1 hv with rfl | hv
            · simp [AV.ids] at hi; omega
            · have := hfl i (by simp only [AV.ids, List.mem_append]; exact .inr (idsL_mem.2 ⟨v, hv, hi⟩)); omega
        have hF := hC w0 _ _ H2 hargs
        -- entering
        have henter := run_enterLoop_outer (P := P) (w := w) b.fn a.tmps params assign body
        rw [← hro] at henter
        have hres : (resolve (evC a.tmps) (rangeCall f (w.heap.size + 1)) 0).run P ((w.alloc (.deferred (some []))).alloc (.loop rec0)) =
            .ok { target := .fn (.func g) (concL β cap).toArray, args := (concL β first).toArray ++ #[.func (.yield (w.heap.size + 1)) #[] #[]] } ((w.alloc (.deferred (some []))).alloc (.loop rec0)) := by
          simp only [resolve, hfe, conc, Deferred.ofValue, Sem.run_pure]
          simp [evC]
        have hcl : concL (upd (upd β st.nx ⟨w.heap.size, 0, 0⟩) (st.nx + 1) ⟨(w.alloc (.deferred (some []))).heap.size, 0, 0⟩) (first ++ .yield (st.nx + 1) :: cap) =
            concL β first ++ .func (.yield (w.heap.size + 1)) #[] #[] :: concL β cap := by
          have e1 := E12.concL (l := first) (fun v hv i hi => hfl i (by simp only [AV.ids, List.mem_append]; exact .inl (idsL_mem.2 ⟨v, hv, hi⟩)))
          have e2 := E12.concL (l := cap) (fun v hv i hi => hfl i (by simp only [AV.ids, List.mem_append]; exact .inr (idsL_mem.2 ⟨v, hv, hi⟩)))
          rw [concL_append, e1]
          simp only [concL, e2]
          simp [conc, hs1]
        rw [hcl] at hF
        have hinv : (invoke (.fn (.func g) (concL β cap).toArray) ((concL β first).toArray ++ #[.func (.yield (w.heap.size + 1)) #[] #[]])).run P ((w.alloc (.deferred (some []))).alloc (.loop rec0)) =
            .ok (.enter g (concL β first ++ .func (.yield (w.heap.size + 1)) #[] #[] :: concL β cap).toArray) ((w.alloc (.deferred (some []))).alloc (.loop rec0)) := by
          simp only [invoke]
          rw [callFunc_ok hT hfn hbody]
          congr 2
          apply Array.ext'
          simp
        have hstep := st_range (P := P) (b := b) (a := a) (k := k) (cs := cs) henter hres hinv
        obtain ⟨e, w', fr, ⟨y, hy, β', he, hn, hW, hlv, hR⟩, hcomes, hfrf, hleav⟩ := hF (fat b { a with defers := [{ target := .collected w.heap.size, args := #[] }] ++ a.defers } (.inRangeFunc (w.heap.size + 1) :: k) :: cs)
        obtain ⟨ys, hys, hsub⟩ := goL_ok h y hy
        have Eall : Ext st.nx β β' := E12.trans he (by omega)
        have hnd : (β' st.nx).b = w.heap.size := by
          rw [he st.nx (by omega), E2 st.nx (by omega), upd_same]
        have hnl : (β' (st.nx + 1)).b = w.heap.size + 1 := by
          rw [he (st.nx + 1) (by omega), upd_same]; exact hs1
        have hSR : ∀ (h' : AH) (w'' : World), WR w0 β' h' y.2.2 w'' → SR w0 β' { st with heap := h', nx := y.2.2, defers := .coll st.nx :: st.defers } a.tmps ({ target := .collected w.heap.size, args := #[] } :: a.defers) w'' := by
          intro h' w'' hW'
          have := H.retype (st' := { st with heap := h', nx := y.2.2 }) Eall (by show st.nx ≤ y.2.2; omega) rfl rfl rfl hW'
          refine ⟨this.wr, this.size, this.rows, ?_, ?_⟩
          · intro d hd
            rcases List.mem_cons.1 hd with rfl | hd
            · show st.nx < y.2.2; omega
            · exact this.dlt d hd
          · have h1 := this.df
            simp only [List.map_cons, concD, hnd]
            rw [← h1]
        rcases behindR_ok hys with ⟨v, hv, rfl⟩ | ⟨v, r, e0, hv, hr, hbusy, rfl, hj⟩
        · rw [hv] at hR hlv
          cases e with
          | returned cv => exact hR.elim
          | outgrown => exact hR.elim
          | panicked ch =>
            simp only [ResR] at hR; subst hR
            refine ⟨_, hsub _ (List.mem_singleton.2 rfl), β', { a with defers := [{ target := .collected w.heap.size, args := #[] }] ++ a.defers }, w', Eall, by show st.nx ≤ y.2.2; omega, hSR y.2.1 w' hW, hlv, .inRangeFunc (w.heap.size + 1) :: k, ?_⟩
            exact (Steps.head hstep hcomes).trans (.one (step_leave_panicked hleav))
        · rw [hv] at hR hlv
          cases e with
          | panicked ch => exact hR.elim
          | outgrown => exact hR.elim
          | returned cv =>
            obtain ⟨_, _, dd, tmps, hb1, hb2, hb3⟩ := hW.here _ _ hr
            rw [hnl] at hb1
            rw [hbusy] at hb1
            have hend := run_endLoop (P := P) hb1 (by cases r.jump <;> simp)
            let o4 : Obj := (.loop { state := .exhausted, pending := r.jump, fn := r.fn, tmps := tmps, params := r.params.toArray, assign := r.assign, body := r.body, defers := dd })
            have hWd := hW.delObj hr o4
            rw [hnl] at hWd
            have hback : Steps P (lone (fat b a (.code (.rangeFunc f params assign body) :: k)) cs w)
                (lone (fat b { a with defers := [{ target := .collected w.heap.size, args := #[] }] ++ a.defers } ((r.jump.map Item.code).toList ++ k)) cs (w'.putObj (w.heap.size + 1) o4)) := by
              refine (Steps.head hstep hcomes).trans (.head (step_leave_returned hleav) (.one ?_))
              rw [finish_fat_range]
              exact st_endRange hend
            refine ⟨_, hsub _ (List.mem_singleton.2 rfl), β', { a with defers := [{ target := .collected w.heap.size, args := #[] }] ++ a.defers }, w'.putObj (w.heap.size + 1) o4, Eall, by show st.nx ≤ y.2.2; omega, hSR _ _ hWd, ?_, ?_⟩
            · rcases hj with ⟨_, rfl⟩ | ⟨_, rfl⟩ | ⟨i, _, rfl⟩ <;> trivial
            · rcases hj with ⟨hj, rfl⟩ | ⟨hj, rfl⟩ | ⟨i, hj, rfl⟩
              · rw [hj] at hback; simpa [hj, Goes] using hback
              · rw [hj] at hback; exact ⟨k, by simpa [hj] using hback⟩
              · rw [hj] at hback; exact ⟨k, rfl, by simpa [hj] using hback⟩
  · cases h

/-- Code. -/
theorem codeA_zero {x : Ctx} (c : Code) (st : ASt) : codeA T x call yield 0 c st = none := rfl
theorem codeA_succ {x : Ctx} (n : Nat) (c : Code) (st : ASt) : codeA T x call yield (n + 1) c st = codeStep T x call yield (codeA T x call yield n) c st := rfl
theorem codeA_ok (hm : P.follows .mixedOrders = true) (hT : TabOK P T) (hc : FuncOK P T call) (hy : YieldOK P yield) {x : Ctx} (hx : CtxOK x b) : ∀ (n : Nat) (c : Code), CodeOK P w0 b (codeA T x call yield n c) c := by
  intro n
  induction n with
  | zero => intro c cs k a β st w outs H h; rw [codeA_zero] at h; cases h
  | succ n ih =>
    intro c cs k a β st w outs H h
    rw [codeA_succ] at h
    have one : ∀ (e : Ex) (st' : ASt) (go : Goes P b cs (lone (fat b a (.code c :: k)) cs w) k β e a w) (hl : ExLt st.nx e), some [(e, st)] = some outs → Out P b cs k (lone (fat b a (.code c :: k)) cs w) w0 st.nx β outs := by
      intro e st' go hl h
      simp only [Option.some.injEq] at h; subst h
      exact ⟨_, List.mem_singleton.2 rfl, β, a, w, Ext.refl _ _, Nat.le_refl _, H, hl, go⟩
    cases c with
    | skip => exact one .normal st (.one st_skip) trivial h
    | label l => exact one .normal st (.one st_label) trivial h
    | exit id => exact one (.exit id) st ⟨k, rfl, Steps.refl _ _⟩ trivial h
    | ret => exact one .ret st ⟨k, Steps.refl _ _⟩ trivial h
    | seq p q => exact seqA_ok (ih p) (ih q) cs k a β st w outs H h
    | cond t p q => exact condA_ok (go := codeA T x call yield n) (ih p) (ih q) cs k a β st w outs H h
    | block id p => exact blockA_ok (ih p) cs k a β st w outs H h
    | scope p => exact scopeA_ok (ih p) cs k a β st w outs H h
    | loop p => exact loopS_ok (ih p) cs k a β st w outs H h
    | region id ops draw => exact regionA_ok hm hT hc hy hx.region H h
    | rangeFunc f ps as bo => exact rangeA_ok hT hc hx cs k a β st w outs H h
    | goto l => cases h
    | refuse s => cases h
end
end Go.Abs
