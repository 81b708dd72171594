/- Rounds of a range over a function. -/
import Derived.Test.YtbbepcgjinfljaaGreatDoorAbsZ
namespace Go.Abs
open Go.RowKit

theorem rows_set {β : Beta} {nx : Nat} {rows : List (List OV)} {tmps : Array Value} {d : Nat} {v : OV} {cv : Value} (h : RowsR β nx rows tmps) (hd : d < tmps.size) (hv : ∀ av, v = some av → av.lt nx ∧ cv = conc β av) :
    RowsR β nx (rset rows d v) (tmps.setIfInBounds d cv) := by
  intro t u hu
  rcases rget_rset hu with ⟨rfl, hvu⟩ | ⟨hne, hu⟩
  · obtain ⟨h1, h2⟩ := hv u hvu
    exact ⟨h1, by simp [hd, h2]⟩
  · obtain ⟨h1, h2⟩ := h t u hu
    refine ⟨h1, ?_⟩
    rw [← h2]
    simp only [Array.getD_eq_getD_getElem?]
    rw [Array.getElem?_setIfInBounds_ne (Ne.symm hne)]

theorem setArgs_cons (rows : List (List OV)) (p : Nat) (ps : List Nat) (a : AV) (l : List AV) : setArgs rows (p :: ps) (a :: l) = setArgs (rset rows p (some a)) ps l := rfl
theorem setArgs_nil (rows : List (List OV)) (ps : List Nat) : setArgs rows ps [] = rows := by cases ps <;> rfl
theorem setArgs_nil' (rows : List (List OV)) (l : List AV) : setArgs rows [] l = rows := rfl
theorem setArgs_ok {β : Beta} {nx : Nat} : ∀ (ps : List Nat) (l : List AV) (rows : List (List OV)) (tmps : Array Value), RowsR β nx rows tmps → (∀ p ∈ ps, p < tmps.size) → ltL nx l →
    RowsR β nx (setArgs rows ps l) ((ps.zip (concL β l)).foldl (fun t x => t.setIfInBounds x.1 x.2) tmps) ∧ ((ps.zip (concL β l)).foldl (fun t x => t.setIfInBounds x.1 x.2) tmps).size = tmps.size := by
  intro ps
  induction ps with
  | nil => intro l rows tmps h _ _; exact ⟨h, rfl⟩
  | cons p ps ih =>
    intro l rows tmps h hp hl
    cases l with
    | nil => rw [setArgs_nil]; exact ⟨by simpa [concL] using h, by simp [concL]⟩
    | cons a l =>
      rw [setArgs_cons]
      simp only [concL, List.zip_cons_cons, List.foldl_cons]
      have := ih l (rset rows p (some a)) (tmps.setIfInBounds p (conc β a)) (rows_set h (hp p (by simp)) (some_val (hl a (by simp)) rfl)) (fun q hq => by simpa using hp q (by simp [hq])) (fun v hv => hl v (by simp [hv]))
      exact ⟨this.1, by rw [this.2]; simp⟩

section
variable {P : Program} {T : Tab} {call yield : CallT}

theorem loop_here {w0 : World} {β : Beta} {h : AH} {nx : Nat} {w : World} (H : WR w0 β h nx w) {l : Nat} {r : LoopR} (hg : h.get l = some (.loop r)) :
    l < nx ∧ ∃ d tmps, w.heap[(β l).b]? = some (.loop { state := if r.busy then .busy else if r.jump.isNone then .ready else .done, pending := r.jump, fn := r.fn, tmps, params := r.params.toArray, assign := r.assign, body := r.body, defers := d }) ∧
      tmps.size = r.n ∧ RowsR β nx r.rows tmps := ⟨(H.here l _ hg).1, (H.here l _ hg).2.2⟩

theorem endR_ok {w0 : World} {β : Beta} {st : ASt} {w : World} (H : WR w0 β st.heap st.nx w) {l : Nat} {jump : Option Code} {outs : List OutF} (h : endR l jump jump.isNone st = some outs) :
    ∃ w' x, outs = [x] ∧ x.1 = .ret (.bool jump.isNone) ∧ x.2.2 = st.nx ∧ (Instr.endRound (β l).b jump).run P w = .ok (.bool jump.isNone) w' ∧ WR w0 β x.2.1 x.2.2 w' := by
  unfold endR at h
  split at h
  · rename_i r hg
    simp only [Option.some.injEq] at h; subst h
    obtain ⟨_, d, tmps, h1, h2, h3⟩ := loop_here H hg
    have hrun := run_endRound (P := P) jump h1
    refine ⟨_, _, rfl, rfl, rfl, hrun, ?_⟩
    refine H.turnObj hg _ ⟨d, tmps, ?_, h2, h3⟩
    rw [World.putObj_heap_same (Array.getElem?_eq_some_iff.1 h1).1]
    simp
  · cases h

theorem roundA_ok (hm : P.follows .mixedOrders = true) (hT : TabOK P T) (hc : FuncOK P T call) (hy : YieldOK P yield) (depth : Nat) : YieldOK P (roundA T depth call yield) := by
  intro l args h nx outs hr w0 β w H hl
  unfold roundA at hr
  split at hr
  · rename_i r hg
    split at hr
    · rename_i hb
      rw [Bool.and_eq_true, nbeq, lenR_eq, lenR_eq, allR_eq, List.all_eq_true] at hb
      obtain ⟨hb1, hb2⟩ := hb
      have hlen : args.length = r.params.length := of_decide_eq_true hb1
      have hps : ∀ p ∈ r.params, p < r.n := fun p hp => by have := hb2 p hp; rw [Nat.blt_eq] at this; exact this
      obtain ⟨hlnx, d, tmps, h1, h2, h3⟩ := loop_here H hg
      have hyield := run_yield (P := P) (args := (concL β args).toArray) h1 (by simp [concL_map, hlen])
      refine ⟨_, _, _, _, _, hyield, fun c cs => ?_⟩
      obtain ⟨hrows, hsize⟩ := setArgs_ok (β := β) (nx := nx) r.params args r.rows tmps h3 (fun p hp => by rw [h2]; exact hps p hp) hl
      have htm : (r.params.toArray.zip (concL β args).toArray).foldl (fun tmps x => tmps.setIfInBounds x.1 x.2) tmps = (r.params.zip (concL β args)).foldl (fun t x => t.setIfInBounds x.1 x.2) tmps := by
        simp
      let b : Frame := { (default : Frame) with fn := r.fn, kind := .normal, roundOf := some (β l).b }
      let a0 : Act := { tmps := (r.params.zip (concL β args)).foldl (fun t x => t.setIfInBounds x.1 x.2) tmps, defers := [] }
      have hb0 : Frame.round (β l).b r.fn ((r.params.toArray.zip (concL β args).toArray).foldl (fun tmps x => tmps.setIfInBounds x.1 x.2) tmps) r.assign r.body .normal = fat b a0 [.code r.assign, .beginRound, .code r.body] := by
        rw [htm]; simp [Frame.round, fat, a0, b]
      have hx : CtxOK ⟨r.fn, true⟩ b := ⟨rfl, rfl⟩
      have S0 : SR w0 β { n := r.n, rows := setArgs r.rows r.params args, defers := [], heap := h, nx := nx } a0.tmps a0.defers w :=
        ⟨H, by show a0.tmps.size = r.n; rw [← h2]; exact hsize, hrows, (fun d hd => by cases hd), rfl⟩
      unfold roundB at hr
      split at hr
      · rename_i st1 hcode
        obtain ⟨x1, hx1, β1, a1, w1, e1, n1, S1, l1, g1⟩ := codeA_ok (w0 := w0) hm hT hc hy hx depth r.assign (c :: cs) [.beginRound, .code r.body] a0 β _ w _ S0 hcode
        simp only [List.mem_singleton] at hx1; subst hx1
        unfold roundC at hr
        split at hr
        · rename_i s hs
          split at hr
          · rename_i hjump
            split at hr
            · rename_i hbusy
              split at hr
              · cases hr
              · rename_i outs1 hbody
                obtain ⟨_, d1, tmps1, k1, k2, k3⟩ := loop_here S1.wr hs
                have hlb : (β1 l).b = (β l).b := by rw [e1 l hlnx]
                have hbegin := run_beginRound (P := P) k1 (by simp [hbusy, hjump])
                have WB := S1.wr.turnObj hs (B' := .loop { s with busy := true })
                  (.loop { state := .busy, pending := s.jump, fn := s.fn, tmps := tmps1, params := s.params.toArray, assign := s.assign, body := s.body, defers := d1 })
                  ⟨d1, tmps1, by rw [World.putObj_heap_same (Array.getElem?_eq_some_iff.1 k1).1]; simp, k2, k3⟩
                have S2 : SR w0 β1 { st1 with heap := st1.heap.put l (.loop { s with busy := true }) } a1.tmps a1.defers _ := ⟨WB, S1.size, S1.rows, S1.dlt, S1.df⟩
                obtain ⟨x2, hx2, β2, a2, w2, e2, n2, S3, l3, g2⟩ := codeA_ok (w0 := w0) hm hT hc hy hx depth r.body (c :: cs) [] a1 β1 _ _ _ S2 hbody
                obtain ⟨o2, ho2, hsub⟩ := goL_ok hr x2 hx2
                have hto : Steps P (lone (Frame.round (β l).b r.fn ((r.params.toArray.zip (concL β args).toArray).foldl (fun tmps x => tmps.setIfInBounds x.1 x.2) tmps) r.assign r.body .normal) (c :: cs) w)
                    (lone (fat b a1 [.code r.body]) (c :: cs) (w1.putObj (β1 l).b (.loop { state := .busy, pending := s.jump, fn := s.fn, tmps := tmps1, params := s.params.toArray, assign := s.assign, body := s.body, defers := d1 }))) := by
                  rw [hb0]
                  refine Steps.trans g1 (.one ?_)
                  rw [hlb] at hbegin ⊢
                  exact stepR_beginRound (b := b) (a := a1) rfl hbegin
                have hlb2 : (β2 l).b = (β l).b := by rw [e2 l (Nat.lt_of_lt_of_le hlnx n1), hlb]
                have e12 : Ext nx β β2 := e1.trans e2 n1
                have n12 : nx ≤ x2.2.nx := Nat.le_trans n1 n2
                unfold endRound at ho2
                split at ho2
                · have fin : ∀ (jump : Option Code), endR l jump jump.isNone x2.2 = some o2 → (∀ w', (Instr.endRound (β l).b jump).run P w2 = .ok (.bool jump.isNone) w' → Steps P (lone (fat b a1 [.code r.body]) (c :: cs) (w1.putObj (β1 l).b (.loop { state := .busy, pending := s.jump, fn := s.fn, tmps := tmps1, params := s.params.toArray, assign := s.assign, body := s.body, defers := d1 }))) (lone (c.finish (.bool jump.isNone)) cs w')) →
                      ∃ x ∈ outs, ∃ β' w' v, x.1 = .ret v ∧ Ext nx β β' ∧ nx ≤ x.2.2 ∧ WR w0 β' x.2.1 x.2.2 w' ∧ v.lt x.2.2 ∧
                        Steps P (lone (Frame.round (β l).b r.fn ((r.params.toArray.zip (concL β args).toArray).foldl (fun tmps x => tmps.setIfInBounds x.1 x.2) tmps) r.assign r.body .normal) (c :: cs) w) (lone (c.finish (conc β' v)) cs w') := by
                    intro jump hend hsteps
                    obtain ⟨w3, x3, rfl, q1, q2, q3, q4⟩ := endR_ok (P := P) S3.wr hend
                    rw [hlb2] at q3
                    exact ⟨x3, hsub _ (List.mem_singleton.2 rfl), β2, w3, _, q1, e12, by rw [q2]; exact n12, q4, lt_noids rfl _, Steps.trans hto (hsteps w3 q3)⟩
                  split at ho2
                  · rename_i hex
                    rw [hex] at g2
                    exact fin none ho2 fun w' hw' => Steps.trans g2 (.one (stepR_round_end (b := b) rfl rfl hw'))
                  · rename_i hex
                    rw [hex] at g2
                    obtain ⟨k0, g2⟩ := g2
                    exact fin (some .ret) ho2 fun w' hw' => Steps.trans g2 (.one (stepR_round_ret (b := b) rfl rfl hw'))
                  · rename_i i hex
                    rw [hex] at g2
                    obtain ⟨k0, hk0, g2⟩ := g2
                    exact fin (some (.exit i)) ho2 fun w' hw' => Steps.trans g2 (.one (stepR_round_exit (b := b) rfl rfl hk0 hw'))
                  · cases ho2
                · cases ho2
            · cases hr
          · cases hr
        · cases hr
      · cases hr
    · cases hr
  · cases hr
end
end Go.Abs
