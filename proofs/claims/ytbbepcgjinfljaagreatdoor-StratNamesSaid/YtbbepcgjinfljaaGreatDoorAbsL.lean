/- Control: sequences, blocks, loops. -/
import Derived.Test.YtbbepcgjinfljaaGreatDoorAbsK
namespace Go.Abs
open Go.RowKit

/-! ### Fewer facts about memory. -/
theorem WR.weak {w0 : World} {β : Beta} {h h' : AH} {nx : Nat} {w : World} (H : WR w0 β h nx w) (nd : (h'.map (·.1)).Nodup)
    (hw : ∀ id B', h'.get id = some B' → ∃ B, h.get id = some B ∧ (BlockAt β nx w id B → BlockAt β nx w id B')) : WR w0 β h' nx w := by
  refine ⟨H.below, nd, fun id B' hg => ?_, fun i j Bi Bj hi hj hij => ?_⟩
  · obtain ⟨B, hB, himp⟩ := hw id B' hg
    obtain ⟨h1, h2, h3⟩ := H.here id B hB
    exact ⟨h1, h2, himp h3⟩
  · obtain ⟨Ci, hi', _⟩ := hw i Bi hi
    obtain ⟨Cj, hj', _⟩ := hw j Bj hj
    exact H.apart i j Ci Cj hi' hj' hij

/-- Forgetting which entry an iterator came to last. -/
def blurB (b : AB) : AB := match b with
  | .iter m n s _ => .iter m n s none
  | b => b
theorem blur_cons (e : Nat × AB) (t : AH) (nx0 : Nat) : AH.blur (e :: t) nx0 = match Nat.blt e.1 nx0 with
    | true => (e.1, blurB e.2) :: t
    | false => AH.blur t nx0 := by
  show (match Nat.blt e.1 nx0 with
    | true => (match e.2 with
      | AB.iter m n s _ => (e.1, AB.iter m n s none)
      | b => (e.1, b)) :: t
    | false => AH.blur t nx0) = _
  obtain ⟨i, B⟩ := e
  cases B <;> rfl
theorem blur_mem (nx0 : Nat) : ∀ (h : AH), ((h.blur nx0).map (·.1)).Sublist (h.map (·.1)) ∧ ∀ id B', (id, B') ∈ h.blur nx0 → ∃ B, (id, B) ∈ h ∧ (B' = B ∨ B' = blurB B) := by
  intro h
  induction h with
  | nil => exact ⟨.slnil, fun id B' hm => by cases hm⟩
  | cons e t ih =>
    rw [blur_cons]
    split
    · refine ⟨List.Sublist.refl _, fun id B' hm => ?_⟩
      rcases List.mem_cons.1 hm with h | h
      · cases h; exact ⟨e.2, by simp, .inr rfl⟩
      · exact ⟨B', List.mem_cons_of_mem _ h, .inl rfl⟩
    · refine ⟨ih.1.trans (List.sublist_cons_self _ _), fun id B' hm => ?_⟩
      obtain ⟨B, hB, h⟩ := ih.2 id B' hm
      exact ⟨B, List.mem_cons_of_mem _ hB, h⟩
theorem blurB_ok {β : Beta} {nx : Nat} {w : World} {id : Nat} {B : AB} (h : BlockAt β nx w id B) : BlockAt β nx w id (blurB B) := by
  cases B <;> try exact h
  rename_i m n s c
  obtain ⟨h1, h2, sc, h3, h4, _⟩ := h
  exact ⟨h1, h2, sc, h3, h4, fun j hj => by cases hj⟩
theorem WR.blur {w0 : World} {β : Beta} {h : AH} {nx : Nat} {w : World} (H : WR w0 β h nx w) (nx0 : Nat) : WR w0 β (h.blur nx0) nx w := by
  obtain ⟨h1, h2⟩ := blur_mem nx0 h
  refine H.weak (H.nd.sublist h1) fun id B' hg => ?_
  obtain ⟨B, hB, he⟩ := h2 id B' (AH.get_mem hg)
  refine ⟨B, AH.get_of_mem H.nd hB, fun hb => ?_⟩
  rcases he with rfl | rfl
  · exact hb
  · exact blurB_ok hb

theorem maskR_cons (v : OV) (t : List OV) (m : List Bool) : maskR (v :: t) m = match m with
    | [] => v :: t
    | b :: bs => (match b with
      | true => none
      | false => v) :: maskR t bs := rfl
theorem maskR_get {u : AV} : ∀ (r : List OV) (m : List Bool) (i : Nat), (maskR r m)[i]? = some (some u) → r[i]? = some (some u) := by
  intro r
  induction r with
  | nil => intro m i h; exact h
  | cons v t ih =>
    intro m i h
    rw [maskR_cons] at h
    cases m with
    | nil => exact h
    | cons b bs =>
      cases i with
      | zero =>
        simp only [List.getElem?_cons_zero, Option.some.injEq] at h ⊢
        cases b with
        | true => cases h
        | false => exact h
      | succ i =>
        simp only [List.getElem?_cons_succ] at h ⊢
        exact ih bs i h
theorem forgetT_cons (r : List OV) (t : List (List OV)) (m : List (List Bool)) : forgetT (r :: t) m = match m with
    | [] => r :: t
    | b :: bs => maskR r b :: forgetT t bs := rfl
theorem forgetT_get : ∀ (rows : List (List OV)) (m : List (List Bool)) (q : Nat) (s : List OV), (forgetT rows m)[q]? = some s → ∃ r, rows[q]? = some r ∧ ∀ (i : Nat) (u : AV), s[i]? = some (some u) → r[i]? = some (some u) := by
  intro rows
  induction rows with
  | nil => intro m q s h; cases h
  | cons r t ih =>
    intro m q s h
    rw [forgetT_cons] at h
    cases m with
    | nil => exact ⟨s, h, fun i u hu => hu⟩
    | cons b bs =>
      cases q with
      | zero =>
        simp only [List.getElem?_cons_zero, Option.some.injEq] at h ⊢
        subst h
        exact ⟨r, rfl, fun i u hu => maskR_get r b i hu⟩
      | succ q =>
        simp only [List.getElem?_cons_succ] at h ⊢
        exact ih bs q s h
theorem forgetT_ok {β : Beta} {nx : Nat} {tmps : Array Value} (m : List (List Bool)) (rows : List (List OV)) (h : RowsR β nx rows tmps) : RowsR β nx (forgetT rows m) tmps := by
  intro q v hq
  refine h q v ?_
  rw [rget_eq] at hq ⊢
  cases hs : (forgetT rows m)[q / 8]? with
  | none => rw [hs] at hq; cases hq
  | some s =>
    rw [hs] at hq
    obtain ⟨r, hr, hi⟩ := forgetT_get rows m (q / 8) s hs
    simp only [Option.bind_some] at hq
    cases hv : s[q % 8]? with
    | none => rw [hv] at hq; cases hq
    | some x =>
      rw [hv] at hq
      simp only [Option.getD_some] at hq
      subst hq
      rw [hr]
      simp [hi _ _ hv]

theorem SR.blur {w0 : World} {β : Beta} {st : ASt} {tmps : Array Value} {df : List Deferred} {w : World} (H : SR w0 β st tmps df w) (f : Option (List (List Bool))) (nx0 : Nat) : SR w0 β (st.blur f nx0) tmps df w := by
  cases f with
  | none => exact H
  | some l => exact ⟨H.wr.blur nx0, H.size, forgetT_ok l _ H.rows, H.dlt, H.df⟩
theorem blur_nx (st : ASt) (f : Option (List (List Bool))) (nx0 : Nat) : (st.blur f nx0).nx = st.nx := by cases f <;> rfl

/-! ### Outcomes -/
theorem normals_mem {x : OutC} (hx : x.1 = .normal) : ∀ {l : List OutC}, x ∈ l → x.2 ∈ normals l := by
  intro l
  induction l with
  | nil => intro h; cases h
  | cons a r ih =>
    intro h
    have hd : normals (a :: r) = match a.1 with
      | .normal => a.2 :: normals r
      | _ => normals r := rfl
    rw [hd]
    rcases List.mem_cons.1 h with rfl | h
    · rw [hx]; simp
    · split
      · exact List.mem_cons_of_mem _ (ih h)
      · exact ih h
theorem others_mem {x : OutC} (hx : x.1 ≠ .normal) : ∀ {l : List OutC}, x ∈ l → x ∈ others l := by
  intro l
  induction l with
  | nil => intro h; cases h
  | cons a r ih =>
    intro h
    have hd : others (a :: r) = match a.1 with
      | .normal => others r
      | _ => a :: others r := rfl
    rw [hd]
    rcases List.mem_cons.1 h with rfl | h
    · split
      · exact absurd ‹_› hx
      · simp
    · split
      · exact ih h
      · exact List.mem_cons_of_mem _ (ih h)

theorem Goes.pass {P : Program} {b : Frame} {cs : List Frame} {m : Machine} {k k' : List Item} {β : Beta} {e : Ex} {a : Act} {w : World} (g : Goes P b cs m k β e a w) (he : e ≠ .normal)
    (hk : ∀ id, e = .exit id → exitTo id k = exitTo id k') : Goes P b cs m k' β e a w := by
  cases e with
  | normal => exact absurd rfl he
  | exit id => obtain ⟨k0, h1, h2⟩ := g; exact ⟨k0, h1.trans (hk id rfl), h2⟩
  | ret => exact g
  | panic v => exact g

structure CtxOK (x : Ctx) (b : Frame) : Prop where
  fn : b.fn = x.fn
  round : x.round = b.roundOf.isSome

theorem CtxOK.region {x : Ctx} {b : Frame} (h : CtxOK x b) : b.roundOf = none ∨ x.round = true := by
  cases hb : b.roundOf with
  | none => exact .inl rfl
  | some l => right; rw [h.round, hb]; rfl

def CodeOK (P : Program) (w0 : World) (b : Frame) (go : ASt → Option (List OutC)) (c : Code) : Prop :=
  ∀ (cs : List Frame) (k : List Item) (a : Act) (β : Beta) (st : ASt) (w : World) (outs : List OutC), SR w0 β st a.tmps a.defers w → go st = some outs →
    Out P b cs k (lone (fat b a (.code c :: k)) cs w) w0 st.nx β outs

section
variable {P : Program} {T : Tab} {call yield : CallT} {w0 : World} {b : Frame}

theorem seqA_ok {x y : Code} {gx gy : ASt → Option (List OutC)} (hx : CodeOK P w0 b gx x) (hy : CodeOK P w0 b gy y) : CodeOK P w0 b (fun st => seqA gy (gx st)) (.seq x y) := by
  intro cs k a β st w outs H h
  cases hg : gx st with
  | none => simp only [hg] at h; cases h
  | some o1 =>
    simp only [hg] at h
    obtain ⟨x1, hx1, β1, a1, w1, e1, n1, H1, l1, g1⟩ := hx cs (.code y :: k) a β st w o1 H hg
    have hseq := st_seq (P := P) (b := b) (a := a) (k := k) (cs := cs) (w := w) (x := x) (y := y)
    -- behind the first one, as a sequence goes on
    have normal : x1.1 = .normal → ∀ o2, gy x1.2 = some o2 → (∀ z ∈ o2, z ∈ outs) → Out P b cs k (lone (fat b a (.code (.seq x y) :: k)) cs w) w0 st.nx β outs := by
      intro hn o2 ho2 hsub
      rw [hn] at g1
      exact (hy cs k a1 β1 x1.2 w1 o2 H1 ho2).weaken (.head hseq g1) e1 n1 hsub
    have other : x1.1 ≠ .normal → x1 ∈ outs → Out P b cs k (lone (fat b a (.code (.seq x y) :: k)) cs w) w0 st.nx β outs := by
      intro hn hm
      exact ⟨x1, hm, β1, a1, w1, e1, n1, H1, l1, (Goes.pass (k' := k) g1 hn (fun id _ => rfl)).of_steps (.one hseq)⟩
    have gen : (match goL gy (normals o1) with
        | none => none
        | some more => some (appR (others o1) more)) = some outs → Out P b cs k (lone (fat b a (.code (.seq x y) :: k)) cs w) w0 st.nx β outs := by
      intro h
      split at h
      · cases h
      · rename_i more hmore
        simp only [Option.some.injEq] at h; subst h
        rw [appR_eq] at *
        by_cases hn : x1.1 = .normal
        · obtain ⟨o2, ho2, hsub⟩ := goL_ok hmore x1.2 (normals_mem hn hx1)
          exact normal hn o2 ho2 fun z hz => List.mem_append.2 (.inr (hsub z hz))
        · exact other hn (List.mem_append.2 (.inl (others_mem hn hx1)))
    unfold seqA at h
    split at h
    · rename_i heq; cases heq
    · rename_i heq; cases heq; cases hx1
    · rename_i s heq
      cases heq
      simp only [List.mem_singleton] at hx1
      subst hx1
      exact normal rfl outs h fun z hz => hz
    · rename_i hsome
      have e := Option.some.inj hsome
      subst e
      exact gen h

theorem condA_ok {x y : Code} {go : CodeT} {t : Operand} (hx : CodeOK P w0 b (go x) x) (hy : CodeOK P w0 b (go y) y) : CodeOK P w0 b (fun st => condA go (st.ev t) x y st) (.cond t x y) := by
  intro cs k a β st w outs H h
  simp only [condA] at h
  split at h
  · rename_i c hc
    have he := (ev_ok H hc).2
    have hs := st_cond (P := P) (b := b) (a := a) (k := k) (cs := cs) (w := w) (x := x) (y := y) (t := c) (by rw [he]; rfl)
    split at h
    · exact (hx cs k a β st w outs H h).weaken (.one hs) (Ext.refl _ _) (Nat.le_refl _) fun z hz => hz
    · exact (hy cs k a β st w outs H h).weaken (.one hs) (Ext.refl _ _) (Nat.le_refl _) fun z hz => hz
  · cases h

theorem exitTo_here (id : Nat) (k : List Item) : exitTo id (.inBlock id :: k) = some k := by simp [exitTo]
theorem exitTo_else {id id' : Nat} (h : id' ≠ id) (k : List Item) : exitTo id (.inBlock id' :: k) = exitTo id k := by simp [exitTo, h]

theorem blockA_ok {id : Nat} {c : Code} {g : ASt → Option (List OutC)} (hc : CodeOK P w0 b g c) : CodeOK P w0 b (fun st => blockA id (g st)) (.block id c) := by
  intro cs k a β st w outs H h
  cases hg : g st with
  | none => simp only [hg] at h; cases h
  | some o1 =>
    simp only [hg, blockA, mapR_eq, Option.some.injEq] at h; subst h
    obtain ⟨x1, hx1, β1, a1, w1, e1, n1, H1, l1, g1⟩ := hc cs (.inBlock id :: k) a β st w o1 H hg
    have hb := st_block (P := P) (b := b) (a := a) (k := k) (cs := cs) (w := w) (id := id) (c := c)
    refine ⟨leftBlock id x1, List.mem_map.2 ⟨x1, hx1, rfl⟩, β1, a1, w1, e1, ?_⟩
    obtain ⟨e, s⟩ := x1
    cases e with
    | normal => exact ⟨n1, H1, trivial, .head hb (Steps.trans g1 (.one st_inBlock))⟩
    | ret => exact ⟨n1, H1, trivial, (Goes.pass (k' := k) g1 (by intro h; cases h) (fun id' h' => by cases h')).of_steps (.one hb)⟩
    | panic v => exact ⟨n1, H1, l1, (Goes.pass (k' := k) g1 (by intro h; cases h) (fun id' h' => by cases h')).of_steps (.one hb)⟩
    | exit i =>
      simp only [leftBlock]
      by_cases hi : i = id
      · subst hi
        have : Nat.beq i i = true := by rw [nbeq]; simp
        simp only [this]
        obtain ⟨k0, h1, h2⟩ := g1
        exact ⟨n1, H1, trivial, .head hb (Steps.trans h2 (.one (st_exit (h1.trans (exitTo_here i k)))))⟩
      · rw [nbeq_ne hi]
        exact ⟨n1, H1, trivial, (Goes.pass (k' := k) g1 (by intro h; cases h) (fun id' h' => by cases h'; exact exitTo_else (Ne.symm hi) k)).of_steps (.one hb)⟩

theorem scopeA_ok {c : Code} {g : ASt → Option (List OutC)} (hc : CodeOK P w0 b g c) : CodeOK P w0 b g (.scope c) := by
  intro cs k a β st w outs H h
  obtain ⟨x1, hx1, β1, a1, w1, e1, n1, H1, l1, g1⟩ := hc cs (.inScope c :: k) a β st w outs H h
  have hb := st_scope (P := P) (b := b) (a := a) (k := k) (cs := cs) (w := w) (c := c)
  refine ⟨x1, hx1, β1, a1, w1, e1, n1, H1, l1, ?_⟩
  by_cases hn : x1.1 = .normal
  · rw [hn] at g1 ⊢
    exact .head hb (Steps.trans g1 (.one st_inScope))
  · exact (Goes.pass (k' := k) g1 hn (fun id _ => rfl)).of_steps (.one hb)

theorem loopA_zero {body : ASt → Option (List OutC)} {norm : ASt → ASt} {dd : Bool} (front : List ASt) : loopA body norm dd 0 front = match front with
    | [] => some []
    | _ :: _ => none := rfl
theorem loopA_succ {body : ASt → Option (List OutC)} {norm : ASt → ASt} {dd : Bool} (n : Nat) (front : List ASt) : loopA body norm dd (n + 1) front = match front with
    | [] => some []
    | _ :: _ => match goL body front with
      | none => none
      | some outs => match dd with
        | false => match loopA body norm dd n (mapR norm (normals outs)) with
          | none => none
          | some more => some (appR (others outs) more)
        | true => match loopA body norm dd n (onceBy beqSt (mapR norm (normals outs)) []) with
          | none => none
          | some more => some (onceBy (fun x y => beqEx x.1 y.1 && beqSt x.2 y.2) (others outs) more) := rfl

theorem loopA_ok {c : Code} {g : ASt → Option (List OutC)} (hc : CodeOK P w0 b g c) {norm : ASt → ASt} (hnorm : ∀ β st tmps df w, SR w0 β st tmps df w → SR w0 β (norm st) tmps df w) (hnx : ∀ st, (norm st).nx = st.nx) {dd : Bool} :
    ∀ (n : Nat) (front : List ASt) (outs : List OutC), loopA g norm dd n front = some outs → ∀ st ∈ front, ∀ (cs : List Frame) (k : List Item) (a : Act) (β : Beta) (w : World), SR w0 β st a.tmps a.defers w →
      Out P b cs k (lone (fat b a (.code c :: .inLoop c :: k)) cs w) w0 st.nx β outs := by
  intro n
  induction n with
  | zero =>
    intro front outs h st hst
    rw [loopA_zero] at h
    cases front with
    | nil => cases hst
    | cons s r => cases h
  | succ n ih =>
    intro front outs h st hst cs k a β w H
    rw [loopA_succ] at h
    cases front with
    | nil => cases hst
    | cons s0 r =>
      simp only at h
      split at h
      · cases h
      · rename_i o1 ho1
        obtain ⟨os, hos, hsub⟩ := goL_ok ho1 st hst
        obtain ⟨x1, hx1, β1, a1, w1, e1, n1, H1, l1, g1⟩ := hc cs (.inLoop c :: k) a β st w os H hos
        have hx1' := hsub x1 hx1
        -- the next front and what comes of it
        have key : ∀ (front' : List ASt) (more : List OutC), loopA g norm dd n front' = some more → (∀ s ∈ (normals o1).map norm, s ∈ front') → (∀ z ∈ more, z ∈ outs) → (∀ z ∈ others o1, z ∈ outs) →
            Out P b cs k (lone (fat b a (.code c :: .inLoop c :: k)) cs w) w0 st.nx β outs := by
          intro front' more hmore hf hm ho
          by_cases hn : x1.1 = .normal
          · rw [hn] at g1
            have hin : norm x1.2 ∈ front' := hf _ (List.mem_map.2 ⟨x1.2, normals_mem hn hx1', rfl⟩)
            have := ih front' more hmore (norm x1.2) hin cs k a1 β1 w1 (hnorm _ _ _ _ _ H1)
            exact this.weaken (Steps.trans g1 (.one st_inLoop)) e1 (by rw [hnx]; exact n1) hm
          · exact ⟨x1, ho x1 (others_mem hn hx1'), β1, a1, w1, e1, n1, H1, l1, Goes.pass (k' := k) g1 hn (fun id _ => rfl)⟩
        split at h
        · split at h
          · cases h
          · rename_i more hmore
            simp only [Option.some.injEq] at h; subst h
            rw [appR_eq] at *
            refine key _ more hmore (fun s hs => by rw [mapR_eq]; exact hs) (fun z hz => List.mem_append.2 (.inr hz)) (fun z hz => List.mem_append.2 (.inl hz))
        · split at h
          · cases h
          · rename_i more hmore
            simp only [Option.some.injEq] at h; subst h
            have hs : ∀ x y : OutC, (beqEx x.1 y.1 && beqSt x.2 y.2) = true → x = y := fun x y hxy => by
              simp only [Bool.and_eq_true] at hxy
              exact Prod.ext (beqEx_ok _ _ hxy.1) (beqSt_ok _ _ hxy.2)
            refine key _ more hmore (fun s hs => onceBy_ok beqSt_ok _ _ s (.inr (by rw [mapR_eq]; exact hs))) (fun z hz => onceBy_ok hs _ _ z (.inl hz)) (fun z hz => onceBy_ok hs _ _ z (.inr hz))

theorem loopS_ok {x : Ctx} {c : Code} {g : ASt → Option (List OutC)} (hc : CodeOK P w0 b g c) : CodeOK P w0 b (fun st => loopS T x g st) (.loop c) := by
  intro cs k a β st w outs H h
  have := loopA_ok hc (norm := fun s => s.blur (T.forget x.fn) st.nx) (fun β st' tmps df w H => H.blur _ _) (fun s => blur_nx _ _ _) 400 [st] outs h st (by simp) cs k a β w H
  exact this.weaken (.one st_loop) (Ext.refl _ _) (Nat.le_refl _) fun z hz => hz
end
end Go.Abs
