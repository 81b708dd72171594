/- The end of a call, and the blocks that are dropped behind it. -/
import Derived.Test.YtbbepcgjinfljaaGreatDoorAbsZ2
namespace Go.Abs
open Go.RowKit

section
variable {P : Program} {T : Tab} {call yield : CallT} {w0 : World}

theorem leaveA_nil (f : Func) (p : Option AV) (st : ASt) : leaveA T call f [] p st = match p with
    | none => match resultsA T st f.results.toList with
      | some l => some [(.ret (one l), st.heap, st.nx)]
      | none => none
    | some v => some [(.panic v, st.heap, st.nx)] := rfl
theorem leaveA_coll (f : Func) (id : Nat) (ds : List ADef) (p : Option AV) (st : ASt) : leaveA T call f (.coll id :: ds) p st = match st.heap.get id with
      | some .defd => leaveA T call f ds p { st with heap := st.heap.del id }
      | _ => none := rfl
theorem leaveA_fn (f : Func) (g : FuncId) (cap : List AV) (ds : List ADef) (p : Option AV) (st : ASt) : leaveA T call f (.fn g cap :: ds) p st = match T.fn g with
      | some gf => match catcher gf with
        | some (s, 0) => match cap with
          | [e] => match call s [thrown p, e] st.heap st.nx with
            | some outs => goL (fun x => match x.1 with
              | .ret _ => leaveA T call f ds none { st with heap := x.2.1, nx := x.2.2 }
              | .panic _ => none) outs
            | none => none
          | _ => none
        | _ => none
      | none => none := by
  cases p <;> rfl

theorem goL_some {α γ : Type} {f : α → Option (List γ)} {l : List α} {r : List γ} (h : goL f l = some r) : ∀ a ∈ l, f a ≠ none := by
  intro a ha hn
  obtain ⟨x, hx, _⟩ := goL_ok h a ha
  rw [hn] at hx; cases hx

theorem leaveA_ok (hT : TabOK P T) (hc : FuncOK P T call) {fn : Func} : ∀ (ds : List ADef) (p : Option AV) (st : ASt) (outs : List OutF), leaveA T call fn ds p st = some outs →
    ∀ (β : Beta) (w : World) (fr : Frame) (cs : List Frame), WR w0 β st.heap st.nx w → RowsR β st.nx st.rows fr.tmps → fr.mode = modeOf β p → (∀ v, p = some v → v.lt st.nx) → fr.defers = ds.map (concD β) →
      (∀ d ∈ ds, d.lt st.nx) → P.funcs[fr.fn]? = some fn → fr.kind = .normal →
      ∃ x ∈ outs, ∃ β' w' fr' e, Ext st.nx β β' ∧ st.nx ≤ x.2.2 ∧ WR w0 β' x.2.1 x.2.2 w' ∧ x.1.v.lt x.2.2 ∧ ResR β' x.1 e ∧ Steps P (lone fr cs w) (lone fr' cs w') ∧ fr'.fn = fr.fn ∧ fr'.leaving P w' e := by
  intro ds
  induction ds with
  | nil =>
    intro p st outs h β w fr cs H hR hmode hp hdef hdl hfn hk
    rw [leaveA_nil] at h
    cases p with
    | none =>
      simp only at h
      split at h
      · rename_i l hl
        simp only [Option.some.injEq] at h; subst h
        obtain ⟨h1, h2⟩ := results_ok hT H hR hl
        exact ⟨_, List.mem_singleton.2 rfl, β, w, fr, .returned (conc β (one l)), Ext.refl _ _, Nat.le_refl _, H, h2, rfl, Steps.refl _ _, rfl, hmode, hdef, hk, fn, hfn, h1⟩
      · cases h
    | some v =>
      simp only [Option.some.injEq] at h; subst h
      exact ⟨_, List.mem_singleton.2 rfl, β, w, fr, .panicked [{ v := conc β v, recovered := false }], Ext.refl _ _, Nat.le_refl _, H, hp v rfl, rfl, Steps.refl _ _, rfl, hmode, hdef, fn, hfn⟩
  | cons d ds ih =>
    intro p st outs h β w fr cs H hR hmode hp hdef hdl hfn hk
    cases d with
    | coll id =>
      rw [leaveA_coll] at h
      split at h
      · rename_i hg
        have hb : w.heap[(β id).b]? = some (.deferred (some [])) := (H.here id _ hg).2.2
        have ht := run_takeDeferred (P := P) hb
        have hs := step_collected (P := P) (cs := cs) (fr := fr) (by rw [hmode]; cases p <;> simp [modeOf]) hdef rfl ht
        have hW := H.delObj hg (.deferred none)
        obtain ⟨x, hx, β', w', fr', e, h1, h2, h3, h4, h5, h6, h7, h8⟩ := ih p { st with heap := st.heap.del id } outs h β _ { fr with defers := [] ++ ds.map (concD β) } cs hW hR hmode hp rfl (fun d hd => hdl d (by simp [hd])) hfn hk
        exact ⟨x, hx, β', w', fr', e, h1, h2, h3, h4, h5, .head hs h6, h7, h8⟩
      · cases h
    | fn g cap =>
      rw [leaveA_fn] at h
      split at h
      · rename_i gf hgf
        split at h
        · rename_i s hcat
          split at h
          · rename_i e
            split at h
            · rename_i outs1 hcall
              have hel : e.lt st.nx := hdl (.fn g [e]) (by simp) e (by simp)
              have htl : (thrown p).lt st.nx := by
                cases p with
                | none => exact lt_noids rfl _
                | some v => exact hp v rfl
              have hl : ltL st.nx [thrown p, e] := by
                intro v hv
                rcases List.mem_cons.1 hv with rfl | hv
                · exact htl
                · rcases List.mem_cons.1 hv with rfl | hv
                  · exact hel
                  · cases hv
              have hret : ∀ x ∈ outs1, ∃ v, x.1 = .ret v := by
                intro x hx
                have := goL_some h x hx
                cases hx1 : x.1 with
                | ret v => exact ⟨v, rfl⟩
                | panic v => rw [hx1] at this; exact absurd rfl this
              obtain ⟨x, hx, β1, w1, e1, n1, W1, hs1⟩ := catch_ok (fr := fr) (cs := cs) (ds := ds.map (concD β)) hT hc hgf hcat hcall H hl hmode hdef hret
              obtain ⟨v, hv⟩ := hret x hx
              obtain ⟨o2, ho2, hsub⟩ := goL_ok h x hx
              simp only [hv] at ho2
              have hmap : ds.map (concD β) = ds.map (concD β1) := by
                refine List.map_congr_left fun d hd => ?_
                have := hdl d (by simp [hd])
                cases d with
                | fn f cap => simp only [concD]; rw [e1.concL this]
                | coll i => simp only [concD]; rw [e1 i this]
              have hdl1 : ∀ d ∈ ds, d.lt x.2.2 := by
                intro d hd
                have := hdl d (by simp [hd])
                cases d with
                | fn f cap => exact this.mono n1
                | coll i => exact Nat.lt_of_lt_of_le this n1
              obtain ⟨y, hy, β', w', fr', e', h1, h2, h3, h4, h5, h6, h7, h8⟩ := ih none { st with heap := x.2.1, nx := x.2.2 } o2 ho2 β1 w1 { fr with defers := ds.map (concD β), mode := .returning } cs W1
                (hR.ext e1 n1) rfl (fun v hv => by cases hv) hmap hdl1 hfn hk
              exact ⟨y, hsub y hy, β', w', fr', e', e1.trans h1 n1, Nat.le_trans n1 h2, h3, h4, h5, hs1.trans h6, h7, h8⟩
            · cases h
          · cases h
        · cases h
      · cases h

/-! ### Blocks that are dropped, and new numbers -/
theorem drop_cons (e : Nat × AB) (t : AH) (nx0 : Nat) (K : List Nat) : AH.drop (e :: t) nx0 K = match Nat.blt e.1 nx0 with
    | true => e :: t
    | false => match memN e.1 K with
      | true => e :: AH.drop t nx0 K
      | false => AH.drop t nx0 K := rfl
theorem drop_sub (nx0 : Nat) (K : List Nat) : ∀ h : AH, (h.drop nx0 K).Sublist h := by
  intro h
  induction h with
  | nil => exact .slnil
  | cons e t ih =>
    rw [drop_cons]
    split
    · exact List.Sublist.refl _
    · split
      · exact ih.cons_cons _
      · exact ih.trans (List.sublist_cons_self _ _)

theorem renN_cons (i a : Nat) (K : List Nat) (j : Nat) : renN i (a :: K) j = match Nat.beq a i with
    | true => j
    | false => renN i K (j + 1) := rfl
theorem renN_ok {i : Nat} : ∀ (K : List Nat) (j : Nat), i ∈ K → j ≤ renN i K j ∧ renN i K j < j + K.length ∧ K[renN i K j - j]? = some i := by
  intro K
  induction K with
  | nil => intro j h; cases h
  | cons a K ih =>
    intro j h
    rw [renN_cons]
    by_cases ha : a = i
    · subst ha
      have : Nat.beq a a = true := by rw [nbeq]; simp
      simp
    · rw [nbeq_ne ha]
      have hK : i ∈ K := by
        rcases List.mem_cons.1 h with h | h
        · exact absurd h.symm ha
        · exact h
      obtain ⟨h1, h2, h3⟩ := ih (j + 1) hK
      simp only [List.length_cons]
      refine ⟨by omega, by omega, ?_⟩
      rw [show renN i K (j + 1) - j = (renN i K (j + 1) - (j + 1)) + 1 by omega]
      simpa using h3

/-- The old blocks, and the kept ones under their new numbers. -/
def betaR (nx0 : Nat) (K : List Nat) (β : Beta) : Beta := fun j => if j < nx0 then β j else β (K.getD (j - nx0) 0)
def inOK (nx0 : Nat) (K : List Nat) (i : Nat) : Prop := i < nx0 ∨ i ∈ K
theorem ren_lt {nx0 : Nat} {K : List Nat} {i : Nat} (h : i < nx0) : ren nx0 K i = i := by
  unfold ren
  have : Nat.blt i nx0 = true := by rw [Nat.blt_eq]; exact h
  rw [this]
theorem ren_ge {nx0 : Nat} {K : List Nat} {i : Nat} (h : ¬ i < nx0) : ren nx0 K i = renN i K nx0 := by
  unfold ren
  have : Nat.blt i nx0 = false := by
    cases hb : Nat.blt i nx0 with
    | false => rfl
    | true => rw [Nat.blt_eq] at hb; exact absurd hb h
  rw [this]
theorem betaR_ren {nx0 : Nat} {K : List Nat} (β : Beta) {i : Nat} (h : inOK nx0 K i) : betaR nx0 K β (ren nx0 K i) = β i := by
  by_cases hlt : i < nx0
  · rw [ren_lt hlt]; simp [betaR, hlt]
  · rw [ren_ge hlt]
    obtain ⟨h1, h2, h3⟩ := renN_ok K nx0 (h.resolve_left hlt)
    simp only [betaR]
    rw [if_neg (by omega)]
    rw [List.getD_eq_getElem?_getD, h3]; rfl
theorem ren_bound {nx0 : Nat} {K : List Nat} {i : Nat} (h : inOK nx0 K i) : ren nx0 K i < nx0 + K.length := by
  by_cases hlt : i < nx0
  · rw [ren_lt hlt]; omega
  · rw [ren_ge hlt]
    exact (renN_ok K nx0 (h.resolve_left hlt)).2.1
theorem ren_inj {nx0 : Nat} {K : List Nat} {i j : Nat} (hi : inOK nx0 K i) (hj : inOK nx0 K j) (h : ren nx0 K i = ren nx0 K j) : i = j := by
  by_cases h1 : i < nx0 <;> by_cases h2 : j < nx0
  · rw [ren_lt h1, ren_lt h2] at h; exact h
  · rw [ren_lt h1, ren_ge h2] at h
    have := (renN_ok K nx0 (hj.resolve_left h2)).1; omega
  · rw [ren_ge h1, ren_lt h2] at h
    have := (renN_ok K nx0 (hi.resolve_left h1)).1; omega
  · rw [ren_ge h1, ren_ge h2] at h
    have a := (renN_ok K nx0 (hi.resolve_left h1)).2.2
    have b := (renN_ok K nx0 (hj.resolve_left h2)).2.2
    rw [h, b] at a; simpa using a.symm

mutual
theorem ids_ren (f : Nat → Nat) : ∀ v : AV, (v.ren f).ids = v.ids.map f
  | .bool _ => rfl
  | .int _ _ => rfl
  | .ptr _ _ => rfl
  | .nilptr => rfl
  | .slice _ _ _ _ => rfl
  | .sliceE _ _ _ _ => rfl
  | .nilslice => rfl
  | .map _ => rfl
  | .nilmap => rfl
  | .func g a c => by simp only [AV.ren, AV.ids, idsL_ren f a, idsL_ren f c, List.map_append]
  | .yield _ => rfl
  | .nilfunc => rfl
  | .iface _ v => by simp only [AV.ren, AV.ids, ids_ren f v]
  | .niliface => rfl
  | .agg cs => by simp only [AV.ren, AV.ids, idsL_ren f cs]
  | .tuple cs => by simp only [AV.ren, AV.ids, idsL_ren f cs]
theorem idsL_ren (f : Nat → Nat) : ∀ l : List AV, AV.idsL (AV.renL f l) = (AV.idsL l).map f
  | [] => rfl
  | a :: r => by simp only [AV.renL, AV.idsL, ids_ren f a, idsL_ren f r, List.map_append]
end

theorem inK_ok {nx0 : Nat} {K l : List Nat} (h : inK nx0 K l = true) : ∀ i ∈ l, inOK nx0 K i := by
  unfold inK at h
  rw [allR_eq, List.all_eq_true] at h
  intro i hi
  have := h i hi
  rw [Bool.or_eq_true, Nat.blt_eq, memN_eq] at this
  exact this.imp id of_decide_eq_true

theorem conc_renK {nx0 : Nat} {K : List Nat} (β : Beta) {v : AV} (h : ∀ i ∈ v.ids, inOK nx0 K i) : conc (betaR nx0 K β) (v.ren (ren nx0 K)) = conc β v ∧ (v.ren (ren nx0 K)).lt (nx0 + K.length) := by
  refine ⟨conc_ren β (betaR nx0 K β) (ren nx0 K) v fun i hi => betaR_ren β (h i hi), ?_⟩
  intro i hi
  rw [ids_ren] at hi
  obtain ⟨j, hj, rfl⟩ := List.mem_map.1 hi
  exact ren_bound (h j hj)

theorem renC_cons (nx0 : Nat) (K : List Nat) (a : AV) (r : List AV) : renC nx0 K (a :: r) = match renC nx0 K r with
    | none => none
    | some m => match a with
      | .bool b => some (.bool b :: m)
      | .int k n => some (.int k n :: m)
      | a => match inK nx0 K a.ids with
        | true => some (a.ren (ren nx0 K) :: m)
        | false => none := rfl
theorem renC_ok {nx0 : Nat} {K : List Nat} (β : Beta) : ∀ (l m : List AV), renC nx0 K l = some m → ltL (nx0 + K.length) m ∧ m.map (conc (betaR nx0 K β)) = l.map (conc β) := by
  intro l
  induction l with
  | nil =>
    intro m h
    have h : some ([] : List AV) = some m := h
    simp only [Option.some.injEq] at h; subst h
    exact ⟨(fun v hv => by cases hv), rfl⟩
  | cons a r ih =>
    intro m h
    rw [renC_cons] at h
    cases hr : renC nx0 K r with
    | none => rw [hr] at h; cases h
    | some m1 =>
      rw [hr] at h
      obtain ⟨i1, i2⟩ := ih m1 hr
      have fin : ∀ v, v.lt (nx0 + K.length) → conc (betaR nx0 K β) v = conc β a → some (v :: m1) = some m → ltL (nx0 + K.length) m ∧ m.map (conc (betaR nx0 K β)) = (a :: r).map (conc β) := by
        intro v h1 h2 h
        simp only [Option.some.injEq] at h; subst h
        refine ⟨?_, by simp [h2, i2]⟩
        intro u hu
        rcases List.mem_cons.1 hu with rfl | hu
        · exact h1
        · exact i1 u hu
      have gen : (match inK nx0 K a.ids with
        | true => some (a.ren (ren nx0 K) :: m1)
        | false => none) = some m → ltL (nx0 + K.length) m ∧ m.map (conc (betaR nx0 K β)) = (a :: r).map (conc β) := by
        intro h
        split at h
        · rename_i hin
          obtain ⟨q1, q2⟩ := conc_renK (nx0 := nx0) (K := K) β (inK_ok hin)
          exact fin _ q2 q1 h
        · cases h
      cases a <;> first
        | exact gen h
        | exact fin _ (lt_noids rfl _) rfl h

theorem renB_ok {nx0 : Nat} {K : List Nat} {β : Beta} {nx : Nat} {w : World} {id : Nat} {B B' : AB} (h : renB nx0 K B = some B') (hid : inOK nx0 K id) (hB : BlockAt β nx w id B) :
    BlockAt (betaR nx0 K β) (nx0 + K.length) w (ren nx0 K id) B' := by
  have eb := betaR_ren β hid
  unfold renB at h
  split at h
  · rename_i l
    split at h
    · rename_i m hm
      simp only [Option.some.injEq] at h; subst h
      obtain ⟨h1, h2⟩ := renC_ok β l m hm
      obtain ⟨_, c, t, k1, k2, k3, k4⟩ := hB
      have hlen : m.length = l.length := by have := congrArg List.length h2; simpa using this
      refine ⟨h1, c, t, by rw [eb]; exact k1, by rw [eb]; exact k2, by rw [eb, hlen]; exact k3, ?_⟩
      intro i v hv
      rw [eb]
      have hmv : (m.map (conc (betaR nx0 K β)))[i]? = some (conc (betaR nx0 K β) v) := by rw [List.getElem?_map, hv]; rfl
      rw [h2, List.getElem?_map] at hmv
      cases hl : l[i]? with
      | none => rw [hl] at hmv; cases hmv
      | some u =>
        rw [hl] at hmv
        simp only [Option.map_some, Option.some.injEq] at hmv
        rw [k4 i u hl, hmv]
    · cases h
  · rename_i es
    simp only [Option.some.injEq] at h; subst h
    obtain ⟨h1, en, h2, h3⟩ := hB
    refine ⟨h1, en, by rw [eb]; exact h2, ?_⟩
    rw [h3]
    exact (entriesOf_ext (nx := 0) h1 (fun i hi => by omega)).symm
  · rename_i m n s c
    split at h
    · rename_i hm
      rw [Nat.blt_eq] at hm
      simp only [Option.some.injEq] at h; subst h
      obtain ⟨h1, h2, sc, h3, h4, h5⟩ := hB
      have em : betaR nx0 K β m = β m := by simp [betaR, hm]
      exact ⟨by omega, by rw [eb]; exact h2, sc, by rw [eb, em]; exact h3, h4, h5⟩
    · cases h
  · cases h
  · simp only [Option.some.injEq] at h; subst h
    show w.heap[(betaR nx0 K β (ren nx0 K id)).b]? = _
    rw [eb]; exact hB

theorem renH_cons (nx0 : Nat) (K : List Nat) (e : Nat × AB) (h : AH) : renH nx0 K (e :: h) = match renH nx0 K h with
    | none => none
    | some h => match Nat.blt e.1 nx0 || memN e.1 K with
      | true => match renB nx0 K e.2 with
        | some b => some ((ren nx0 K e.1, b) :: h)
        | none => none
      | false => none := rfl
theorem renH_ok {nx0 : Nat} {K : List Nat} : ∀ (h h' : AH), renH nx0 K h = some h' → h'.map (·.1) = h.map (fun e => ren nx0 K e.1) ∧ (∀ e ∈ h, inOK nx0 K e.1) ∧
    ∀ id' B', (id', B') ∈ h' → ∃ id B, (id, B) ∈ h ∧ id' = ren nx0 K id ∧ renB nx0 K B = some B' := by
  intro h
  induction h with
  | nil =>
    intro h' hr
    have hr : some ([] : AH) = some h' := hr
    simp only [Option.some.injEq] at hr; subst hr
    exact ⟨rfl, (fun e he => by cases he), (fun id' B' hm => by cases hm)⟩
  | cons e t ih =>
    intro h' hr
    rw [renH_cons] at hr
    cases ht : renH nx0 K t with
    | none => rw [ht] at hr; cases hr
    | some t' =>
      rw [ht] at hr
      simp only at hr
      obtain ⟨i1, i2, i3⟩ := ih t' ht
      split at hr
      · rename_i hin
        rw [Bool.or_eq_true, Nat.blt_eq, memN_eq] at hin
        have hin : inOK nx0 K e.1 := hin.imp id of_decide_eq_true
        split at hr
        · rename_i b hb
          simp only [Option.some.injEq] at hr; subst hr
          refine ⟨by simp [i1], ?_, ?_⟩
          · intro x hx
            rcases List.mem_cons.1 hx with rfl | hx
            · exact hin
            · exact i2 x hx
          · intro id' B' hm
            rcases List.mem_cons.1 hm with h | h
            · cases h; exact ⟨e.1, e.2, by simp, rfl, hb⟩
            · obtain ⟨id, B, q1, q2⟩ := i3 id' B' h
              exact ⟨id, B, List.mem_cons_of_mem _ q1, q2⟩
        · cases hr
      · cases hr

theorem WR.ren {β : Beta} {h h' : AH} {nx nx0 : Nat} {K : List Nat} {w : World} (H : WR w0 β h nx w) (hr : renH nx0 K h = some h') : WR w0 (betaR nx0 K β) h' (nx0 + K.length) w := by
  obtain ⟨h1, h2, h3⟩ := renH_ok h h' hr
  refine ⟨H.below, ?_, ?_, ?_⟩
  · rw [h1]
    have : h.map (fun e => Abs.ren nx0 K e.1) = (h.map (·.1)).map (Abs.ren nx0 K) := by simp
    show List.Pairwise (· ≠ ·) _
    rw [this, List.pairwise_map]
    refine List.Pairwise.imp_of_mem ?_ H.nd
    intro i j hi hj hne hij
    obtain ⟨e, he, rfl⟩ := List.mem_map.1 hi
    obtain ⟨e', he', rfl⟩ := List.mem_map.1 hj
    exact hne (ren_inj (h2 e he) (h2 e' he') hij)
  · intro id' B' hg
    obtain ⟨id, B, hm, rfl, hb⟩ := h3 id' B' (AH.get_mem hg)
    have hin := h2 (id, B) hm
    obtain ⟨k1, k2, k3⟩ := H.here id B (AH.get_of_mem H.nd hm)
    exact ⟨ren_bound hin, by rw [betaR_ren β hin]; exact k2, renB_ok hb hin k3⟩
  · intro i j Bi Bj hi hj hij
    obtain ⟨i0, Bi0, hmi, rfl, _⟩ := h3 i Bi (AH.get_mem hi)
    obtain ⟨j0, Bj0, hmj, rfl, _⟩ := h3 j Bj (AH.get_mem hj)
    rw [betaR_ren β (h2 _ hmi), betaR_ren β (h2 _ hmj)]
    exact H.apart i0 j0 Bi0 Bj0 (AH.get_of_mem H.nd hmi) (AH.get_of_mem H.nd hmj) (fun h => hij (by rw [h]))

/-- What is asked of a call's end. -/
def EndOK (w0 : World) (nx : Nat) (β : Beta) (x : OutF) (e : Ending) (w' : World) : Prop :=
  ∃ β', Ext nx β β' ∧ nx ≤ x.2.2 ∧ WR w0 β' x.2.1 x.2.2 w' ∧ x.1.v.lt x.2.2 ∧ ResR β' x.1 e

theorem gcA_ok {f : FuncId} {nx : Nat} {β : Beta} {x y : OutF} {e : Ending} {w' : World} (h : EndOK w0 nx β x e w') (hg : gcA T f nx x = some y) : EndOK w0 nx β y e w' := by
  obtain ⟨β', h1, h2, h3, h4, h5⟩ := h
  unfold gcA at hg
  split at hg
  · generalize keepers x.2.1 nx 200 x.1.v.ids [] = K at hg
    unfold gcK at hg
    split at hg
    · split at hg
      · rename_i hin
        split at hg
        · rename_i h' hr
          simp only [Option.some.injEq] at hg; subst hg
          have hs := h3.sub (drop_sub nx K x.2.1)
          have hW := hs.ren hr
          obtain ⟨q1, q2⟩ := conc_renK (nx0 := nx) (K := K) β' (inK_ok hin)
          have hb : Ext nx β (betaR nx K β') := fun i hi => by rw [← h1 i hi]; simp [betaR, hi]
          rw [lenR_eq]
          refine ⟨betaR nx K β', hb, by simp, hW, ?_, ?_⟩
          · obtain ⟨r, hh, n⟩ := x
            cases r <;> exact q2
          · obtain ⟨r, hh, n⟩ := x
            cases r with
            | ret v =>
              cases e with
              | returned cv => simp only [ResR, Res.ren] at h5 ⊢; rw [h5]; exact q1.symm
              | panicked ch => exact h5.elim
              | outgrown => exact h5.elim
            | panic v =>
              cases e with
              | returned cv => exact h5.elim
              | panicked ch =>
                simp only [ResR, Res.ren] at h5 ⊢; rw [h5]
                rw [show conc (betaR nx K β') (v.ren (Abs.ren nx K)) = conc β' v from q1]
              | outgrown => exact h5.elim
        · cases hg
      · cases hg
    · simp only [Option.some.injEq] at hg; subst hg
      exact ⟨β', h1, h2, h3.sub (drop_sub nx K x.2.1), h4, h5⟩
  · simp only [Option.some.injEq] at hg; subst hg
    exact ⟨β', h1, h2, h3, h4, h5⟩

theorem gcL_cons (f : FuncId) (nx0 : Nat) (x : OutF) (l : List OutF) : gcL T f nx0 (x :: l) = match gcL T f nx0 l with
    | none => none
    | some l => match gcA T f nx0 x with
      | some y => some (y :: l)
      | none => none := rfl
theorem gcL_ok {f : FuncId} {nx : Nat} : ∀ (l r : List OutF), gcL T f nx l = some r → ∀ x ∈ l, ∃ y ∈ r, gcA T f nx x = some y := by
  intro l
  induction l with
  | nil => intro r _ x hx; cases hx
  | cons a t ih =>
    intro r h x hx
    rw [gcL_cons] at h
    cases ht : gcL T f nx t with
    | none => rw [ht] at h; cases h
    | some r1 =>
      rw [ht] at h
      simp only at h
      split at h
      · rename_i y hy
        simp only [Option.some.injEq] at h; subst h
        rcases List.mem_cons.1 hx with rfl | hx
        · exact ⟨y, by simp, hy⟩
        · obtain ⟨z, hz, hg⟩ := ih r1 ht x hx
          exact ⟨z, List.mem_cons_of_mem _ hz, hg⟩
      · cases h

theorem closeF_ok {f : FuncId} {nx : Nat} {β : Beta} {l outs : List OutF} (h : closeF T f nx (some l) = some outs) {x : OutF} (hx : x ∈ l) {e : Ending} {w' : World} (hE : EndOK w0 nx β x e w') : ∃ y ∈ outs, EndOK w0 nx β y e w' := by
  unfold closeF at h
  simp only at h
  split at h
  · cases h
  · rename_i rs hrs
    obtain ⟨y, hy, hg⟩ := gcL_ok l rs hrs x hx
    have hEy := gcA_ok hE hg
    split at h
    · simp only [Option.some.injEq] at h; subst h
      exact ⟨y, onceBy_ok beqF_ok _ _ y (.inr hy), hEy⟩
    · simp only [Option.some.injEq] at h; subst h
      exact ⟨y, hy, hEy⟩
end
end Go.Abs
