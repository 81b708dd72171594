/- The operations on numbers, and those that make values. -/
import Derived.Test.YtbbepcgjinfljaaGreatDoorAbsF
import Derived.Laws.BitsLemmas
namespace Go.Abs
open Go.RowKit

theorem ieq_ok (a b : Int) : ieq a b = (a == b) := by
  unfold ieq
  cases a <;> cases b <;> simp only [nbeq] <;> rw [Bool.eq_iff_iff] <;> simp <;> omega
theorem nble (a b : Nat) : Nat.ble a b = decide (a ≤ b) := by
  rw [Bool.eq_iff_iff]; simp
theorem ile_ok (a b : Int) : ile a b = decide (a ≤ b) := by
  unfold ile
  cases a <;> cases b <;> simp only [nble] <;> rw [Bool.eq_iff_iff] <;> simp <;> omega
theorem wrapF_ok (k : IntKind) (n : Int) : wrapF k n = k.wrap n := by
  unfold wrapF
  cases k <;> try rfl
  cases n with
  | ofNat m =>
    simp only
    split
    · rename_i h
      have := Nat.le_of_ble_eq_true h
      rw [IntKind.wrap_i64]; simp only [Int.ofNat_eq_natCast]; omega
    · rfl
  | negSucc m =>
    simp only
    split
    · rename_i h
      have := Nat.le_of_ble_eq_true h
      rw [IntKind.wrap_i64]; omega
    · rfl
theorem kindEq_ok {j k : IntKind} (h : kindEq j k = true) : j = k := by
  unfold kindEq at h
  cases j <;> first
    | (cases k <;> first | rfl | (simp at h; done))
    | simpa using h
theorem isU64_ok {k : IntKind} (h : isU64 k = true) : k = .u64 := by
  cases k <;> first | rfl | cases h

section
variable {P : Program} {T : Tab} {w0 : World} {β : Beta} {st : ASt} {tmps : Array Value} {defers : List Deferred} {w : World} {o : Oper}

theorem eqGuard_int (op : BinOp) (t : TypeId) (x y : Operand) (k j : IntKind) (a b : Int) : (eqGuard op t x y (.int k a) (.int j b)).run P w = .ok () w := by
  unfold eqGuard
  cases op <;> simp

theorem u64_nat (a b : Nat) (ha : a ≤ 18446744073709551615) : (IntKind.u64.wrap ((BitVec.ofInt IntKind.u64.bits (Int.ofNat a) &&& BitVec.ofInt IntKind.u64.bits (Int.ofNat b)).toNat)) = Int.ofNat (Nat.land a b) ∨ ¬ b ≤ 18446744073709551615 := by
  by_cases hb : b ≤ 18446744073709551615
  · left
    have e1 : (BitVec.ofInt IntKind.u64.bits (Int.ofNat a)).toNat = a := by
      show (BitVec.ofInt 64 (Int.ofNat a)).toNat = a
      rw [Int.ofNat_eq_natCast, BitVec.ofInt_natCast, BitVec.toNat_ofNat]; omega
    have e2 : (BitVec.ofInt IntKind.u64.bits (Int.ofNat b)).toNat = b := by
      show (BitVec.ofInt 64 (Int.ofNat b)).toNat = b
      rw [Int.ofNat_eq_natCast, BitVec.ofInt_natCast, BitVec.toNat_ofNat]; omega
    rw [BitVec.toNat_and, e1, e2]
    have h : a &&& b ≤ a := Nat.and_le_left
    show IntKind.u64.wrap ((a &&& b : Nat) : Int) = ((a &&& b : Nat) : Int)
    have : ∀ c : Nat, c ≤ 18446744073709551615 → IntKind.u64.wrap (c : Int) = (c : Int) := by
      intro c hc
      simp only [IntKind.wrap, IntKind.bits, IntKind.signed]
      simp; omega
    exact this _ (by omega)
  · exact .inr hb

theorem int_ok {op : BinOp} {k j : IntKind} {a b : Int} {v : AV} (h : int64 op k a j b = some v) (t : TypeId) :
    (binOp op t (.int k a) (.int j b)).run P w = .ok (conc β v) w ∧ v.ids = [] := by
  have res : ∀ op, kindEq k j = true → intRes k op a b = some v → (op ≠ .shl ∧ op ≠ .shr ∧ op ≠ .and) → (binOp op t (.int k a) (.int j b)).run P w = .ok (conc β v) w ∧ v.ids = [] := by
    intro op hk hr ho
    clear h
    cases kindEq_ok hk
    unfold intRes at hr
    cases op <;> simp only [Option.some.injEq, reduceCtorEq] at hr <;> first
      | (subst hr; refine ⟨?_, rfl⟩; simp [binOp, Op.intArith, Op.intCmp, conc, wrapF_ok, ieq_ok, ile_ok, bne]; done)
      | (subst hr; refine ⟨?_, rfl⟩; simp [binOp, Op.intCmp, conc, ile_ok]; rw [Bool.eq_iff_iff]; simp; done)
      | (exact absurd rfl ho.1)
      | (exact absurd rfl ho.2.1)
      | (exact absurd rfl ho.2.2)
  cases op <;> simp only [int64] at h <;> first
    | (split at h
       · rename_i hk; exact res _ hk h (by simp)
       · cases h)
    | skip
  · -- and
    split at h
    · rename_i hu
      simp only [Bool.and_eq_true] at hu
      cases isU64_ok hu.1; cases isU64_ok hu.2
      unfold andV at h
      split at h
      · split at h
        · split at h
          · rename_i m _ n _ hb
            simp only [Bool.and_eq_true] at hb
            have hm := Nat.le_of_ble_eq_true hb.1
            have hn := Nat.le_of_ble_eq_true hb.2
            simp only [Option.some.injEq] at h; subst h
            refine ⟨?_, rfl⟩
            have := (u64_nat m n hm).resolve_right (by simpa using hn)
            simp only [binOp, ne_eq, not_true_eq_false, if_false, Op.intBits, Sem.run_pure, conc]
            rw [this]
          · cases h
        · cases h
      · cases h
    · cases h
  · cases h
  · split at h
    · rename_i hu
      simp only [Bool.and_eq_true] at hu
      cases isU64_ok hu.1; cases isU64_ok hu.2
      unfold shrV at h
      split at h
      · split at h
        · split at h
          · rename_i m _ n _ hb
            have hn := Nat.le_of_ble_eq_true hb
            simp only [Option.some.injEq] at h; subst h
            refine ⟨?_, rfl⟩
            have hneg : ¬ (Int.ofNat n < 0) := by simp
            have hmin : min (Int.ofNat n).toNat IntKind.u64.bits = n := by
              show min n 64 = n
              omega
            simp only [binOp, Op.shift, hneg, if_false, hmin, Sem.run_pure, conc]
            have e : (2 : Int) ^ n = ((2 ^ n : Nat) : Int) := by simp
            have e2 : (Int.ofNat m).fdiv (2 ^ n) = Int.ofNat (m.div (Nat.pow 2 n)) := by
              rw [e, Int.fdiv_eq_ediv_of_nonneg _ (Int.natCast_nonneg _)]; rfl
            rw [e2]
          · cases h
        · cases h
      · cases h
    · cases h


theorem equal_nil {t : TypeId} {ms : Array (String × TypeId)} (hu : P.underlying t = some (.interface ms)) : (Op.equal t .nilIface .nilIface).run P w = .ok true w := by
  show (Op.equalIn (9999 + 1) t .nilIface .nilIface).run P w = _
  rw [Op.equalIn]
  simp only [Sem.run_bind, run_underlying hu, Result.andThen_ok, Sem.run_pure]
theorem equal_iface_nil {t : TypeId} {ms : Array (String × TypeId)} (hu : P.underlying t = some (.interface ms)) (u : TypeId) (v : Value) : (Op.equal t (.iface u v) .nilIface).run P w = .ok false w := by
  show (Op.equalIn (9999 + 1) t (.iface u v) .nilIface).run P w = _
  rw [Op.equalIn]
  simp only [Sem.run_bind, run_underlying hu, Result.andThen_ok, Sem.run_pure]
theorem binOp_eql_nil {t : TypeId} : binOp .eql t .nilIface .nilIface = (do pure (.bool (← Op.equal t .nilIface .nilIface))) := rfl
theorem binOp_eql_iface {t u : TypeId} {v : Value} : binOp .eql t (.iface u v) .nilIface = (do pure (.bool (← Op.equal t (.iface u v) .nilIface))) := rfl

theorem opBin_ok (hT : TabOK P T) (H : SR w0 β st tmps defers w) {op : BinOp} {t : TypeId} {x y : Operand} (ho : ∃ z, o.op = .binOp op t x y z)
    {steps : List Step} (h : opBin op (nilCmp (T.ty t) x y) (st.ev x) (st.ev y) st = some steps) :
    ∃ s ∈ steps, StepOK P T w0 β st tmps w o s := by
  obtain ⟨z, ho⟩ := ho
  unfold opBin at h
  split at h
  · rename_i a hx
    split at h
    · rename_i b hy
      split at h
      · rename_i v hv
        obtain ⟨hxl, hxe⟩ := ev_ok H hx
        obtain ⟨hyl, hye⟩ := ev_ok H hy
        have iface : ∀ (hi : (isEql op && nilCmp (T.ty t) x y) = true) , ∃ ms, P.underlying t = some (.interface ms) ∧ op = .eql ∧ (isConst x || isConst y) = true := by
          intro hi
          simp only [Bool.and_eq_true] at hi
          obtain ⟨h1, h2⟩ := hi
          have : op = .eql := by cases op <;> first | rfl | cases h1
          unfold nilCmp at h2
          split at h2
          · rename_i sz zz ht
            obtain ⟨d, hd, hk⟩ := (hT.ty t _ ht).und
            obtain ⟨ms, rfl⟩ := hk
            exact ⟨ms, hd, this, h2⟩
          · cases h2
        have key : ∃ cv, (execOp (evC tmps) o).run P w = .ok (.value cv) w ∧ cv = conc β v ∧ v.ids = [] := by
          unfold binA at hv
          split at hv
          · split at hv
            · obtain ⟨hr, hi⟩ := int_ok (P := P) (β := β) (w := w) hv t
              refine ⟨_, ?_, rfl, hi⟩
              simp only [execOp, ho, hxe, hye, conc, Sem.run_bind, eqGuard_int, Result.andThen_ok, hr, Sem.run_pure]
            · cases hv
          · split at hv
            · split at hv
              · rename_i hi
                obtain ⟨ms, hu, rfl, hc⟩ := iface hi
                simp only [Option.some.injEq] at hv; subst hv
                refine ⟨.bool true, ?_, rfl, rfl⟩
                have hc' : ((x matches .const _) || (y matches .const _)) = true := by
                  cases x <;> cases y <;> first | rfl | (simp [isConst] at hc)
                have hg : (eqGuard .eql t x y .nilIface .nilIface).run P w = .ok () w := by
                  unfold eqGuard
                  cases x <;> cases y <;> first | rfl | (simp [isConst] at hc)
                simp only [execOp, ho, hxe, hye, conc, Sem.run_bind, hg, Result.andThen_ok, binOp_eql_nil, equal_nil hu, Sem.run_pure]
              · cases hv
            · cases hv
          · split at hv
            · split at hv
              · rename_i hi
                obtain ⟨ms, hu, rfl, hc⟩ := iface hi
                simp only [Option.some.injEq] at hv; subst hv
                refine ⟨.bool false, ?_, rfl, rfl⟩
                have hg : ∀ a b, (eqGuard .eql t x y (.iface a b) .nilIface).run P w = .ok () w := by intro a b; simp [eqGuard]
                simp only [execOp, ho, hxe, hye, conc, Sem.run_bind, hg, Result.andThen_ok, binOp_eql_iface, equal_iface_nil hu, Sem.run_pure]
              · cases hv
            · cases hv
          · cases hv
        obtain ⟨cv, hr, hc, hi⟩ := key
        exact one_of v st h (same_ok H hr (some_val (lt_noids hi _) hc))
      · cases h
    · cases h
  · cases h

theorem opNot_ok (H : SR w0 β st tmps defers w) {op : UnOp} {t : TypeId} {x : Operand} (ho : o.op = .unOp op t x) {steps : List Step} (h : opUn op (st.ev x) st = some steps) :
    ∃ s ∈ steps, StepOK P T w0 β st tmps w o s := by
  unfold opUn at h
  split at h
  · unfold opNot at h
    split at h
    · rename_i b hx
      obtain ⟨hl, he⟩ := ev_ok H hx
      refine one_of _ st h (same_ok H (cv := .bool (!b)) ?_ (some_val (lt_noids rfl _) rfl))
      simp [execOp, ho, he, conc, Op.unary]
    · cases h
  · cases h

theorem opConv_ok (hT : TabOK P T) (H : SR w0 β st tmps defers w) {s t : TypeId} {x : Operand} (ho : o.op = .convert s t x) {steps : List Step}
    (h : opConv (T.ty s) (T.ty t) (st.ev x) st = some steps) : ∃ s ∈ steps, StepOK P T w0 β st tmps w o s := by
  unfold opConv at h
  split at h
  · rename_i i hs
    split at h
    · rename_i k sz z ht
      split at h
      · rename_i j n hx
        obtain ⟨hl, he⟩ := ev_ok H hx
        obtain ⟨d, hd, hk⟩ := (hT.ty t _ ht).und
        cases hk
        obtain ⟨d', hd', _⟩ := (hT.ty s _ hs).und
        refine one_of _ st h (same_ok H (cv := .int k (k.wrap n)) ?_ (some_val (lt_noids rfl _) (by simp [conc, wrapF_ok])))
        simp [execOp, ho, he, conc, convert, run_underlying hd, run_underlying hd', Conv.intToInt]
      · cases h
    · cases h
  · cases h

theorem solid_ok (hT : TabOK P T) {t : TypeId} (h : solid (T.ty t) = true) : ∃ d, P.underlying t = some d ∧ ∀ ms, d ≠ .interface ms := by
  unfold solid at h
  split at h
  · cases h
  · rename_i i hn ht
    obtain ⟨d, hd, hk⟩ := (hT.ty t _ ht).und
    refine ⟨d, hd, ?_⟩
    obtain ⟨kind, sz, z⟩ := i
    cases kind with
    | struct fs => obtain ⟨fields, rfl, _⟩ := hk; simp
    | array n e => cases hk; simp
    | slice e => cases hk; simp
    | map k e => cases hk; simp
    | int k => cases hk; simp
    | iface => exact absurd rfl (fun h => hn sz z h)
    | other => exact hk.2.2
  · cases h

theorem opIface_ok (hT : TabOK P T) (H : SR w0 β st tmps defers w) {t : TypeId} {x : Operand} (ho : o.op = .makeInterface t x) {steps : List Step}
    (h : opIface (T.ty t) t (st.ev x) st = some steps) : ∃ s ∈ steps, StepOK P T w0 β st tmps w o s := by
  unfold opIface at h
  split at h
  · rename_i hs
    obtain ⟨d, hd, hi⟩ := solid_ok hT hs
    split at h
    · rename_i v hx
      obtain ⟨hl, he⟩ := ev_ok H hx
      refine one_of _ st h (same_ok H (cv := .iface t (conc β v)) ?_ (some_val (by intro k hk; exact hl k (by simpa [AV.ids] using hk)) rfl))
      simp only [execOp, ho, he, Instr.makeInterface, Sem.run_bind, run_underlying hd, Result.andThen_ok]
      cases d <;> first | rfl | (exact absurd rfl (hi _))
    · cases h
  · cases h

theorem opAssert_ok (hT : TabOK P T) (H : SR w0 β st tmps defers w) {t xt : TypeId} {x : Operand} (ho : o.op = .typeAssert x xt t true) {steps : List Step}
    (h : opAssert (T.ty t) t (st.ev x) st = some steps) : ∃ s ∈ steps, StepOK P T w0 β st tmps w o s := by
  unfold opAssert at h
  split at h
  · rename_i u v hx
    split at h
    · rename_i hb
      simp only [Bool.and_eq_true, nbeq, decide_eq_true_eq] at hb
      obtain ⟨rfl, hs⟩ := hb
      obtain ⟨d, hd, hi⟩ := solid_ok hT hs
      obtain ⟨hl, he⟩ := ev_ok H hx
      refine one_of _ st h (same_ok H (cv := .tuple #[conc β v, .bool true]) ?_ (some_val (by intro k hk; exact hl k (by simpa [AV.ids, AV.idsL] using hk)) rfl))
      simp only [execOp, ho, he, conc, Instr.typeAssert, Sem.run_bind, run_underlying hd, Result.andThen_ok]
      cases d <;> first | (simp; done) | (exact absurd rfl (hi _))
    · cases h
  · cases h

theorem opExtract_ok (H : SR w0 β st tmps defers w) {x : Operand} {i : Nat} (ho : o.op = .extract x i) {steps : List Step}
    (h : opExtract (st.ev x) i st = some steps) : ∃ s ∈ steps, StepOK P T w0 β st tmps w o s := by
  unfold opExtract at h
  split at h
  · rename_i vs hx
    split at h
    · rename_i v hv
      rw [getR_eq] at hv
      obtain ⟨hl, he⟩ := ev_ok H hx
      refine one_of _ st h (same_ok H (cv := conc β v) ?_ (some_val (by intro k hk; exact hl k (by simp only [AV.ids]; exact idsL_mem.2 ⟨v, List.mem_of_getElem? hv, hk⟩)) rfl))
      have : (concL β vs).toArray[i]? = some (conc β v) := by
        rw [List.getElem?_toArray, concL_map, List.getElem?_map, hv]; rfl
      simp [execOp, ho, he, conc, Instr.extract, this]
    · cases h
  · cases h

theorem opPanic_ok (H : SR w0 β st tmps defers w) {x : Operand} (ho : o.op = .panic x) {steps : List Step}
    (h : opPanic (st.ev x) st = some steps) : ∃ s ∈ steps, StepOK P T w0 β st tmps w o s := by
  unfold opPanic at h
  split at h
  · rename_i t v hx
    obtain ⟨hl, he⟩ := ev_ok H hx
    simp only [Option.some.injEq] at h; subst h
    refine ⟨_, List.mem_singleton.2 rfl, rfl, ?_, hl⟩
    simp [execOp, ho, he, conc, Instr.panic]
  · cases h

theorem evs_ok (H : SR w0 β st tmps defers w) : ∀ {l : List Operand} {vs : List AV}, evs st l = some vs → ltL st.nx vs ∧ l.map (evC tmps) = concL β vs := by
  intro l
  induction l with
  | nil => intro vs h; simp only [evs, lrec_nil, Option.some.injEq] at h; subst h; exact ⟨fun v hv => (List.not_mem_nil hv).elim, rfl⟩
  | cons a r ih =>
    intro vs h
    simp only [evs, lrec_cons] at h
    split at h
    · rename_i v hv
      split at h
      · rename_i l hl
        simp only [Option.some.injEq] at h; subst h
        obtain ⟨h1, h2⟩ := ih (by simpa only [evs] using hl)
        obtain ⟨h3, h4⟩ := ev_ok H hv
        refine ⟨?_, by simp [concL, h2, h4]⟩
        intro u hu
        rcases List.mem_cons.1 hu with rfl | hu
        · exact h3
        · exact h1 u hu
      · cases h
    · cases h

theorem opFunc_ok (H : SR w0 β st tmps defers w) {f : Fn} {a b : Array Operand} (ho : o.op = .makeFunc f a b) {steps : List Step}
    (h : opFunc f (evs st a.toList) (evs st b.toList) st = some steps) : ∃ s ∈ steps, StepOK P T w0 β st tmps w o s := by
  unfold opFunc at h
  split at h
  · rename_i g
    split at h
    · rename_i la ha
      split at h
      · rename_i lb hb
        obtain ⟨ha1, ha2⟩ := evs_ok H ha
        obtain ⟨hb1, hb2⟩ := evs_ok H hb
        refine one_of _ st h (same_ok H (cv := .func (.func g) (concL β la).toArray (concL β lb).toArray) ?_ (some_val ?_ rfl))
        · have e1 : a.map (evC tmps) = (concL β la).toArray := by apply Array.ext'; simp [ha2]
          have e2 : b.map (evC tmps) = (concL β lb).toArray := by apply Array.ext'; simp [hb2]
          simp [execOp, ho, Instr.makeFunc, e1, e2]
        · intro k hk
          simp only [AV.ids, List.mem_append] at hk
          rcases hk with hk | hk
          · obtain ⟨u, hu, hk⟩ := idsL_mem.1 hk; exact ha1 u hu k hk
          · obtain ⟨u, hu, hk⟩ := idsL_mem.1 hk; exact hb1 u hu k hk
      · cases h
    · cases h
  · cases h

theorem opDefer_ok (H : SR w0 β st tmps defers w) {c : Call} (ho : o.op = .defer c) {steps : List Step}
    (h : opDefer c st = some steps) : ∃ s ∈ steps, StepOK P T w0 β st tmps w o s := by
  unfold opDefer at h
  split at h
  · rename_i f hc
    split at h
    · rename_i ha
      split at h
      · rename_i g cap hf
        simp only [Option.some.injEq] at h; subst h
        obtain ⟨hl, he⟩ := ev_ok H hf
        refine ⟨_, List.mem_singleton.2 rfl, rfl, ?_, ?_⟩
        · have ha' : c.args = #[] := by apply Array.ext'; simpa using ha
          simp [execOp, ho, resolve, hc, ha', he, conc, concL, Deferred.ofValue, concD]
        · intro v hv k hk
          exact hl k (by simp only [AV.ids, List.mem_append]; exact .inr (idsL_mem.2 ⟨v, hv, hk⟩))
      · cases h
    · cases h
  · cases h
end
end Go.Abs
