/- Regions: in the text's order, and those that draw their order. -/
import Derived.Test.YtbbepcgjinfljaaGreatDoorAbsX
namespace Go.Abs
open Go.RowKit

section
variable {P : Program} {T : Tab} {call yield : CallT} {w0 : World} {b : Frame} {cs : List Frame} {k : List Item} {ops : Array Oper}

theorem firm_binds (e : Edge) : Region.binds .any e = firm e := by
  unfold Region.binds firm
  cases e.ground <;> rfl

/-- Where firm edges lead. -/
noncomputable def firmL (l : List Edge) : List Nat := lrec [] (fun e _ r => match firm e with
  | true => e.on :: r
  | false => r) l
theorem firmL_cons (a : Edge) (r : List Edge) : firmL (a :: r) = match firm a with
  | true => a.on :: firmL r
  | false => firmL r := rfl
theorem firmL_mem {j : Nat} : ∀ (l : List Edge), j ∈ firmL l ↔ ∃ e ∈ l, firm e = true ∧ e.on = j := by
  intro l
  induction l with
  | nil => show j ∈ [] ↔ _; simp
  | cons a r ih =>
    rw [firmL_cons]
    cases hf : firm a with
    | true =>
      simp only [List.mem_cons, ih]
      constructor
      · rintro (rfl | ⟨e, h1, h2, h3⟩)
        · exact ⟨a, .inl rfl, hf, rfl⟩
        · exact ⟨e, .inr h1, h2, h3⟩
      · rintro ⟨e, h1 | h1, h2, h3⟩
        · subst h1; exact .inl h3.symm
        · exact .inr ⟨e, h1, h2, h3⟩
    | false =>
      simp only [List.mem_cons, ih]
      constructor
      · rintro ⟨e, h1, h2, h3⟩; exact ⟨e, .inr h1, h2, h3⟩
      · rintro ⟨e, h1 | h1, h2, h3⟩
        · subst h1; rw [hf] at h2; cases h2
        · exact ⟨e, h1, h2, h3⟩
theorem depsOf_mem {o : Oper} {j : Nat} : j ∈ depsOf o ↔ ∃ e ∈ o.after.toList, firm e = true ∧ e.on = j := firmL_mem o.after.toList

theorem ready_mem {listed : Array Bool} {i : Nat} : i ∈ Region.ready .any ops listed ↔ i < ops.size ∧ listed.getD i true = false ∧ ∃ o, ops[i]? = some o ∧ ∀ j ∈ depsOf o, listed.getD j false = true := by
  unfold Region.ready
  simp only [List.mem_filter, List.mem_range, Bool.and_eq_true, Bool.not_eq_true']
  constructor
  · rintro ⟨h1, h2, h3⟩
    refine ⟨h1, h2, ?_⟩
    cases ho : ops[i]? with
    | none => rw [ho] at h3; cases h3
    | some o =>
      rw [ho] at h3
      simp only [Option.map_some, Option.getD_some] at h3
      refine ⟨o, rfl, fun j hj => ?_⟩
      obtain ⟨e, he, hf, rfl⟩ := depsOf_mem.1 hj
      rw [Array.all_eq_true_iff_forall_mem] at h3
      have := h3 e (by simpa using he)
      rw [firm_binds, hf] at this
      simpa using this
  · rintro ⟨h1, h2, o, ho, h3⟩
    refine ⟨h1, h2, ?_⟩
    rw [ho]
    simp only [Option.map_some, Option.getD_some]
    rw [Array.all_eq_true_iff_forall_mem]
    intro e he
    rw [firm_binds]
    cases hf : firm e with
    | false => rfl
    | true => simpa using h3 e.on (depsOf_mem.2 ⟨e, by simpa using he, hf, rfl⟩)

/-- The places that are not listed yet. -/
def unl (n : Nat) (listed : Array Bool) : List Nat := (List.range n).filter fun i => !listed.getD i true
theorem unl_mem {n : Nat} {listed : Array Bool} {i : Nat} : i ∈ unl n listed ↔ i < n ∧ listed.getD i true = false := by
  unfold unl; simp

theorem getD_set {listed : Array Bool} {i j : Nat} {d : Bool} (hi : i < listed.size) : (listed.setIfInBounds i true).getD j d = if j = i then true else listed.getD j d := by
  simp only [Array.getD_eq_getD_getElem?, Array.getElem?_setIfInBounds]
  by_cases h : j = i
  · subst h; simp [hi]
  · rw [if_neg (Ne.symm h), if_neg h]

theorem go_ok (S : SlotsOK ops.toList) : ∀ (fuel t : Nat) (listed : Array Bool), listed.size = ops.size → (unl ops.size listed).length ≤ fuel →
    (Region.linearise.go .any ops fuel t listed []).Nodup ∧ (∀ i, i ∈ Region.linearise.go .any ops fuel t listed [] ↔ i ∈ unl ops.size listed) ∧
      Topo ops.toList (fun j => listed.getD j false = true) (Region.linearise.go .any ops fuel t listed []) := by
  intro fuel
  induction fuel with
  | zero =>
    intro t listed hs hl
    have h0 : unl ops.size listed = [] := List.eq_nil_of_length_eq_zero (by omega)
    have : Region.linearise.go .any ops 0 t listed [] = [] := rfl
    rw [this, h0]
    exact ⟨List.nodup_nil, fun i => Iff.rfl, trivial⟩
  | succ fuel ih =>
    intro t listed hs hl
    have hg : Region.linearise.go .any ops (fuel + 1) t listed [] = match (Region.ready .any ops listed)[t % (Region.ready .any ops listed).length]? with
      | some i => Region.linearise.go .any ops fuel (t / (Region.ready .any ops listed).length) (listed.setIfInBounds i true) [i]
      | none => [] := rfl
    rw [hg]
    cases hi : (Region.ready .any ops listed)[t % (Region.ready .any ops listed).length]? with
    | none =>
      have hnil : Region.ready .any ops listed = [] := by
        cases hr : Region.ready .any ops listed with
        | nil => rfl
        | cons x xs =>
          rw [hr] at hi
          have hlt : t % (x :: xs).length < (x :: xs).length := Nat.mod_lt _ (by simp)
          simp at hi
          simp at hlt
          omega
      -- the least one that is not listed would be ready
      have none_left : ∀ n, ∀ i, i < n → ¬ (i ∈ unl ops.size listed) := by
        intro n
        induction n with
        | zero => intro i h; omega
        | succ n ihn =>
          intro i hin hmem
          rcases Nat.lt_succ_iff_lt_or_eq.1 hin with h | h
          · exact ihn i h hmem
          · subst h
            obtain ⟨h1, h2⟩ := unl_mem.1 hmem
            have hoi : ops[i]? = some ops[i] := by simp [h1]
            have : i ∈ Region.ready .any ops listed := ready_mem.2 ⟨h1, h2, ops[i], hoi, fun j hj => by
              have hji := S.deps i ops[i] (by simp) j hj
              have hjn := ihn j hji
              have hj2 : ¬ (listed.getD j true = false) := fun h => hjn (unl_mem.2 ⟨by omega, h⟩)
              have hsz : j < listed.size := by omega
              simp only [Array.getD_eq_getD_getElem?, Array.getElem?_eq_getElem hsz, Option.getD_some] at hj2 ⊢
              simpa using hj2⟩
            rw [hnil] at this; cases this
      simp only
      refine ⟨List.nodup_nil, fun i => ⟨fun h => by simp at h, fun h => absurd h (none_left (i + 1) i (by omega))⟩, trivial⟩
    | some i =>
      simp only
      rw [linearise_go_acc, List.reverse_singleton, List.singleton_append]
      have hmem : i ∈ Region.ready .any ops listed := List.mem_of_getElem? hi
      obtain ⟨h1, h2, o, ho, h3⟩ := ready_mem.1 hmem
      have hsz : i < listed.size := by omega
      have hunl : ∀ j, j ∈ unl ops.size (listed.setIfInBounds i true) ↔ j ∈ unl ops.size listed ∧ j ≠ i := by
        intro j
        rw [unl_mem, unl_mem, getD_set hsz]
        by_cases hj : j = i
        · subst hj; simp
        · simp [hj]
      have hlen : (unl ops.size (listed.setIfInBounds i true)).length < (unl ops.size listed).length := by
        have e : unl ops.size (listed.setIfInBounds i true) = (unl ops.size listed).filter (fun j => !decide (j = i)) := by
          unfold unl
          rw [List.filter_filter]
          refine List.filter_congr fun j _ => ?_
          rw [getD_set hsz]
          by_cases hj : j = i <;> simp [hj]
        rw [e]
        refine List.length_filter_lt_length_iff_exists.2 ⟨i, unl_mem.2 ⟨h1, h2⟩, by simp⟩
      obtain ⟨n1, n2, n3⟩ := ih (t / (Region.ready .any ops listed).length) (listed.setIfInBounds i true) (by simpa using hs) (by omega)
      refine ⟨List.nodup_cons.2 ⟨fun h => ((hunl i).1 ((n2 i).1 h)).2 rfl, n1⟩, fun j => ?_, ⟨o, by simpa using ho, h3⟩, ?_⟩
      · rw [List.mem_cons, n2, hunl]
        constructor
        · rintro (rfl | ⟨h, _⟩)
          · exact unl_mem.2 ⟨h1, h2⟩
          · exact h
        · intro h
          by_cases hj : j = i
          · exact .inl hj
          · exact .inr ⟨h, hj⟩
      · have e : (fun j => (listed.setIfInBounds i true).getD j false = true) = (fun j => listed.getD j false = true ∨ j = i) := by
          funext j
          rw [getD_set hsz]
          by_cases hj : j = i <;> simp [hj]
        rw [e] at n3
        exact n3

/-! ### The look at a region. -/
theorem ahead_ok {opsL : List Oper} {E : Nat → Prop} (hE : ∀ (e : Nat) (oe : Oper), E e → opsL[e]? = some oe → ∀ j ∈ depsOf oe, E j) : ∀ (n : Nat) (todo acc : List Nat), (∀ i ∈ todo, E i) → (∀ i ∈ acc, E i) →
    ∀ i ∈ ahead opsL n todo acc, E i := by
  intro n
  induction n with
  | zero => intro todo acc _ ha i hi; exact ha i hi
  | succ n ih =>
    intro todo acc ht ha
    cases todo with
    | nil => exact ha
    | cons j r =>
      have hs : ahead opsL (n + 1) (j :: r) acc = match memN j acc with
        | true => ahead opsL n r acc
        | false => match getR opsL j with
          | some o => ahead opsL n (appR (depsOf o) r) (j :: acc)
          | none => ahead opsL n r acc := rfl
      rw [hs]
      split
      · exact ih r acc (fun i hi => ht i (by simp [hi])) ha
      · split
        · rename_i o ho
          rw [getR_eq] at ho
          have hj := ht j (by simp)
          refine ih _ _ ?_ ?_
          · intro i hi
            rw [appR_eq] at hi
            rcases List.mem_append.1 hi with h | h
            · exact hE j o hj ho i h
            · exact ht i (by simp [h])
          · intro i hi
            rcases List.mem_cons.1 hi with h | h
            · exact h ▸ hj
            · exact ha i h
        · exact ih r acc (fun i hi => ht i (by simp [hi])) ha

theorem loud_cons (o : Oper) (r : List Oper) (i : Nat) : loud (o :: r) i = match pureOp o.op with
    | true => loud r (i + 1)
    | false => some i := rfl
theorem loud_none : ∀ (l : List Oper) (i : Nat), loud l i = none → ∀ o ∈ l, pureOp o.op = true := by
  intro l
  induction l with
  | nil => intro i _ o h; cases h
  | cons a r ih =>
    intro i h o ho
    rw [loud_cons] at h
    split at h
    · rename_i hp
      rcases List.mem_cons.1 ho with rfl | ho
      · exact hp
      · exact ih (i + 1) h o ho
    · cases h

theorem pureBut_cons (c : Nat) (l : List Nat) (own : Bool) (o : Oper) (r : List Oper) (i : Nat) : pureBut c l own (o :: r) i = ((match Nat.beq i c with
    | true => true
    | false => pureOp o.op && (match Nat.blt i c with
      | true => memN i l || (bareOp o.op && own)
      | false => memN c (depsOf o))) && pureBut c l own r (i + 1)) := rfl
theorem pureBut_at (c : Nat) (l : List Nat) (own : Bool) : ∀ (os : List Oper) (i : Nat), pureBut c l own os i = true → ∀ (n : Nat) (o : Oper), os[n]? = some o → i + n ≠ c →
    pureOp o.op = true ∧ (i + n < c → i + n ∈ l ∨ (bareOp o.op = true ∧ own = true)) ∧ (c < i + n → c ∈ depsOf o) := by
  intro os
  induction os with
  | nil => intro i _ n o h; simp at h
  | cons a r ih =>
    intro i h n o hn hne
    rw [pureBut_cons, Bool.and_eq_true] at h
    obtain ⟨h1, h2⟩ := h
    cases n with
    | succ n =>
      have := ih (i + 1) h2 n o (by simpa using hn) (by omega)
      rw [show i + (n + 1) = i + 1 + n by omega]
      exact this
    | zero =>
      simp only [List.getElem?_cons_zero, Option.some.injEq] at hn; subst hn
      simp only [Nat.add_zero] at hne ⊢
      rw [nbeq_ne hne, Bool.and_eq_true] at h1
      obtain ⟨h1, h3⟩ := h1
      refine ⟨h1, fun hlt => ?_, fun hlt => ?_⟩
      · have : Nat.blt i c = true := by rw [Nat.blt_eq]; exact hlt
        rw [this] at h3
        simpa [memN_eq] using h3
      · have : Nat.blt i c = false := by
          cases hb : Nat.blt i c with
          | false => rfl
          | true => rw [Nat.blt_eq] at hb; omega
        rw [this] at h3
        simpa [memN_eq] using h3

/-- Which one may be loud. -/
noncomputable def loudAt (ops : List Oper) : Nat := match loud ops 0 with
  | some c => c
  | none => lenR ops
theorem drawOK_ok {opsL : List Oper} (h : drawOK opsL = true) : DrawOK opsL (loudAt opsL) := by
  unfold drawOK at h
  rw [Bool.and_eq_true] at h
  obtain ⟨hs, h⟩ := h
  have S := slots_ok hs
  unfold loudAt
  split at h
  · rename_i hl
    simp only [hl]
    have hp := loud_none _ _ hl
    have hlt : ∀ (i : Nat) (o : Oper), opsL[i]? = some o → i < lenR opsL := fun i o ho => by rw [lenR_eq]; exact (List.getElem?_eq_some_iff.1 ho).1
    refine ⟨S, fun i o ho _ => hp o (List.mem_of_getElem? ho), fun i o ho hlt' => ?_, fun oc hoc => ?_⟩
    · have := hlt i o ho; omega
    · have := hlt _ oc hoc; omega
  · rename_i c hl
    simp only [hl]
    split at h
    · rename_i oc hoc
      rw [getR_eq] at hoc
      have key := pureBut_at _ _ _ opsL 0 h
      simp only [Nat.zero_add] at key
      refine ⟨S, fun i o ho hne => (key i o ho hne).1, fun i o ho hlt => (key i o ho (by omega)).2.2 hlt, fun oc' hoc' i o ho hlt => ?_⟩
      rw [hoc] at hoc'; cases hoc'
      rcases (key i o ho (by omega)).2.1 hlt with h | h
      · right
        intro E hE hEc
        exact ahead_ok hE 100 _ _ hEc (fun i hi => by cases hi) i h
      · exact .inl h
    · cases h

/-- A region. -/
theorem regionA_ok (hm : P.follows .mixedOrders = true) (hT : TabOK P T) (hc : FuncOK P T call) (hy : YieldOK P yield) {x : Ctx} (hx : b.roundOf = none ∨ x.round = true) {id : Nat} {draw : Bool} {a : Act} {β : Beta} {st : ASt} {w : World}
    (H : SR w0 β st a.tmps a.defers w) {outs : List OutC} (h : regionA T x call yield ops.toList draw st = some outs) : Out P b cs k (lone (fat b a (.code (.region id ops draw) :: k)) cs w) w0 st.nx β outs := by
  unfold regionA at h
  split at h
  · cases h
  · rename_i hnd
    have hd : b.roundOf = none ∨ ∀ o ∈ ops.toList, isDefer o = false := by
      rcases hx with hx | hx
      · exact .inl hx
      · right
        rw [hx, Bool.true_and, anyR_eq] at hnd
        intro o ho
        have := List.any_eq_false.1 hnd o ho
        simpa using this
    split at h
    · have h0 := opsA_ok (b := b) (cs := cs) (k := k) hT hc hy hd ops.size 0 (by omega) a β st w outs H (by simpa using h)
      rw [show List.range' 0 ops.size = List.range ops.size by rw [List.range_eq_range']] at h0
      exact h0.weaken (.one st_region) (Ext.refl _ _) (Nat.le_refl _) fun x hx => hx
    · split at h
      · rename_i hdo
        have D := drawOK_ok hdo
        replace h : drawA T call yield ops.toList (loudAt ops.toList) ops.toList 0 st = some outs := h
        have h1 := drawA_run (T := T) (call := call) (yield := yield) ops.toList (loudAt ops.toList) ops.toList.length 0 (by omega) st
        rw [List.drop_zero] at h1
        rw [h1] at h
        have hsched : Region.schedule (P.follows .mixedOrders) ops (w.tape w.drawn (.order b.fn id)) = Region.linearise.go .any ops ops.size (w.tape w.drawn (.order b.fn id)) (Array.replicate ops.size false) [] := by
          simp only [Region.schedule, hm, Bool.true_or, if_true, Region.linearise]
        have hunl0 : unl ops.size (Array.replicate ops.size false) = List.range ops.size := by
          unfold unl
          rw [List.filter_eq_self]
          intro i hi
          have := List.mem_range.1 hi
          simp [Array.getD_eq_getD_getElem?, this]
        obtain ⟨n1, n2, n3⟩ := go_ok D.slots ops.size (w.tape w.drawn (.order b.fn id)) (Array.replicate ops.size false) (by simp) (by rw [hunl0]; simp)
        rw [hunl0] at n2
        have hget : ∀ i, (∃ o, ops.toList[i]? = some o) ↔ i < ops.size := fun i => by
          constructor
          · rintro ⟨o, ho⟩; simpa using (List.getElem?_eq_some_iff.1 ho).1
          · intro h; exact ⟨ops[i], by simp [h]⟩
        have n3' : Topo ops.toList (fun _ => False) (Region.linearise.go .any ops ops.size (w.tape w.drawn (.order b.fn id)) (Array.replicate ops.size false) []) := by
          have e : (fun j => (Array.replicate ops.size false).getD j false = true) = (fun _ => False) := by
            funext j
            simp only [Array.getD_eq_getD_getElem?, Array.getElem?_replicate]
            by_cases hj : j < ops.size <;> simp [hj]
          rw [e] at n3; exact n3
        have h2 := order_ok (T := T) (call := call) (yield := yield) D (Region.linearise.go .any ops ops.size (w.tape w.drawn (.order b.fn id)) (Array.replicate ops.size false) []) (fun _ => False) (List.range' 0 ops.toList.length)
          (fun e oe he => he.elim) (fun i _ h => h) List.pairwise_lt_range' n1 (fun i => by rw [n2, List.range_eq_range']; simp) (fun i hi => (hget i).2 (by simpa using hi)) n3' h
        have h3 := runL_ok (b := b) (cs := cs) (k := k) (w0 := w0) hT hc hy (loudAt ops.toList) hd (Region.linearise.go .any ops ops.size (w.tape w.drawn (.order b.fn id)) (Array.replicate ops.size false) [])
          (fun i hi => by
            have hlt : i < ops.size := by have := (n2 i).1 hi; simpa using this
            refine ⟨ops[i], by simp [hlt], fun hne => D.pure i ops[i] (by simp [hlt]) hne⟩) a β st w.drew outs ⟨H.wr.drew, H.size, H.rows, H.dlt, H.df⟩ h2
        exact h3.weaken (.one (by rw [← hsched]; exact st_region_draw)) (Ext.refl _ _) (Nat.le_refl _) fun x hx => hx
      · cases h
end
end Go.Abs
