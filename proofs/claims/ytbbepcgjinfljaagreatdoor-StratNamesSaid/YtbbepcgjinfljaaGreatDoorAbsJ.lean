/- append, copy, len. -/
import Derived.Test.YtbbepcgjinfljaaGreatDoorAbsI
import Derived.Laws.CopyRow
import Derived.Laws.CopyOwn
namespace Go.Abs
open Go.RowKit

theorem AH.get_del {h : AH} (nd : (h.map (·.1)).Nodup) {id j : Nat} {B : AB} (hg : (h.del id).get j = some B) : j ≠ id ∧ h.get j = some B := by
  have hm := AH.get_mem hg
  refine ⟨?_, AH.get_of_mem nd ((AH.del_sub h id).subset hm)⟩
  rintro rfl
  exact AH.del_not nd _ B hm

/-- A block goes on under a new name, turned. -/
theorem WR.move {w0 : World} {β : Beta} {h : AH} {nx : Nat} {w w' : World} (H : WR w0 β h nx w) {si : Nat} {Bs B : AB} (hg : h.get si = some Bs)
    (hb : Below w0.heap.size w w') (ho : ∀ k, k ≠ (β si).b → w'.heap[k]? = w.heap[k]?) (off size : Nat) (hB : BlockAt (upd β nx ⟨(β si).b, off, size⟩) (nx + 1) w' nx B) :
    WR w0 (upd β nx ⟨(β si).b, off, size⟩) ((nx, B) :: h.del si) (nx + 1) w' := by
  have he := upd_ext β nx ⟨(β si).b, off, size⟩
  have fresh : ∀ B, h.get nx ≠ some B := fun B hg => Nat.lt_irrefl _ (H.here nx B hg).1
  refine ⟨H.below.trans hb, ?_, ?_, ?_⟩
  · simp only [List.map_cons, List.nodup_cons]
    refine ⟨fun hm => ?_, H.nd.sublist ((AH.del_sub h si).map _)⟩
    obtain ⟨⟨i, B'⟩, hm', hi⟩ := List.mem_map.1 hm
    simp only at hi; subst hi
    exact fresh B' (AH.get_of_mem H.nd ((AH.del_sub h si).subset hm'))
  · intro id B' hg'
    rw [AH.get_cons] at hg'
    by_cases hid : nx = id
    · subst hid; simp only [if_true] at hg'; cases hg'
      exact ⟨by omega, by simpa using (H.here si Bs hg).2.1, hB⟩
    · simp only [hid, if_false] at hg'
      obtain ⟨hne, hg'⟩ := AH.get_del H.nd hg'
      obtain ⟨h1, h2, h3⟩ := H.here id B' hg'
      refine ⟨by omega, by rw [he id h1]; exact h2, ?_⟩
      exact (h3.frame (ho _ (H.apart id si B' Bs hg' hg hne))).ext h1 he (by omega)
  · have old : ∀ i Bi, (h.del si).get i = some Bi → (upd β nx ⟨(β si).b, off, size⟩ i).b ≠ (β si).b := fun i Bi hi => by
      obtain ⟨hne, hi⟩ := AH.get_del H.nd hi
      rw [he i (H.here i Bi hi).1]; exact H.apart i si Bi Bs hi hg hne
    intro i j Bi Bj hi hj hij
    rw [AH.get_cons] at hi hj
    by_cases h1 : nx = i <;> by_cases h2 : nx = j
    · exact absurd (h1.symm.trans h2) hij
    · simp only [h2, if_false] at hj; subst h1; have := old j Bj hj; simp only [upd_same]; exact fun h => this h.symm
    · simp only [h1, if_false] at hi; subst h2; have := old i Bi hi; simp only [upd_same]; exact this
    · simp only [h1, if_false] at hi; simp only [h2, if_false] at hj
      obtain ⟨_, hi⟩ := AH.get_del H.nd hi
      obtain ⟨_, hj⟩ := AH.get_del H.nd hj
      rw [he i (H.here i Bi hi).1, he j (H.here j Bj hj).1]; exact H.apart i j Bi Bj hi hj hij

section
variable {P : Program} {T : Tab} {w0 : World} {β : Beta} {st : ASt} {tmps : Array Value} {defers : List Deferred} {w : World} {o : Oper}

theorem cellsOf_ok {h : AH} {nx : Nat} (H : WR w0 β h nx w) {id off n : Nat} {m : List AV} (hc : cellsOf h id off n = some m) :
    m.length = n ∧ ltL nx m ∧ (∀ j u, (concL β m)[j]? = some u → w.cell? ((⟨(β id).b, (β id).o + off, none⟩ : Addr).add j) = some u) ∧ (∀ u ∈ concL β m, u.oneCell' = true) ∧ (∀ v ∈ m, flat v = true) := by
  unfold cellsOf at hc
  split at hc
  · rename_i l hl
    have hg := cells_get hl
    split at hc
    · rename_i c hp
      split at hc
      · rename_i hf
        simp only [Option.some.injEq] at hc; subst hc
        rw [allR_eq, List.all_eq_true] at hf
        refine ⟨(part_spec hp).2, ?_, ?_, ?_, hf⟩
        · intro v hv
          obtain ⟨j, hj⟩ := List.getElem?_of_mem hv
          exact (H.cell hg (part_get hp j v hj)).2
        · intro j u hu
          rw [concL_map, List.getElem?_map] at hu
          cases hcj : c[j]? with
          | none => rw [hcj] at hu; cases hu
          | some av =>
            rw [hcj] at hu; simp at hu; subst hu
            rw [add_none, Nat.add_assoc]
            exact (H.cell hg (part_get hp j av hcj)).1
        · intro u hu
          rw [concL_map] at hu
          obtain ⟨v, hv, rfl⟩ := List.mem_map.1 hu
          exact oneCell_conc (hf v hv)
      · cases hc
    · cases hc
  · cases hc

theorem zeroCells_eq (z : Array Value) (n : Nat) : (Builtin.zeroCells z n).size = n * z.size := size_zeroCells z n

theorem call_builtin {c : Call} (ho : o.op = .call c) {b : Builtin} (hb : c.callee = .builtin b) {vs : List AV} (hv : c.args.toList.map (evC tmps) = concL β vs) {v : Value} {w' : World}
    (hr : (builtin b c.argTypes o.type (c.args.map fun | .const _ => true | _ => false) (concL β vs).toArray).run P w = .ok (.value v) w') : (execOp (evC tmps) o).run P w = .ok (.value v) w' := by
  have e1 : c.args.map (evC tmps) = (concL β vs).toArray := by apply Array.ext'; simp [hv]
  simp only [execOp, ho, resolve, hb, Sem.run_bind, Sem.run_pure, Result.andThen_ok, e1, invoke]
  exact hr

theorem len_ok (hT : TabOK P T) (H : SR w0 β st tmps defers w) {c : Call} (ho : o.op = .call c) (hb : c.callee = .builtin .len) {t : TypeId} {ts : List TypeId} (ht : c.argTypes.toList = t :: ts) {x : AV}
    (hv : c.args.toList.map (evC tmps) = concL β [x]) {steps : List Step} (h : lenA (T.ty t) x st = some steps) : ∃ s ∈ steps, StepOK P T w0 β st tmps w o s := by
  unfold lenA at h
  split at h
  · rename_i e s zz hty
    obtain ⟨d, hd, hk⟩ := (hT.ty t _ hty).und
    cases hk
    split at h
    · rename_i n hn
      have ha : c.argTypes[0]? = some t := by rw [← Array.getElem?_toList, ht]; rfl
      have hx : ∃ a cp, conc β x = .slice a n cp := by
        unfold lenOf at hn
        split at hn
        · simp only [Option.some.injEq] at hn; subst hn; exact ⟨_, _, conc_slice ..⟩
        · simp only [Option.some.injEq] at hn; subst hn
          simp only [conc]; split <;> exact ⟨_, _, rfl⟩
        · simp only [Option.some.injEq] at hn; subst hn; exact ⟨_, _, rfl⟩
        · cases hn
      obtain ⟨a, cp, hx⟩ := hx
      refine one_of _ st h (same_ok H (cv := .int .i64 n) ?_ (some_val (lt_noids rfl _) rfl))
      refine call_builtin ho hb hv ?_
      have : (Builtin.len_ c.argTypes o.type (concL β [x]).toArray).run P w = .ok (.int .i64 n) w := by
        simp [Builtin.len_, ha, concL, hx, run_underlying hd, goInt]
      simp only [builtin, Sem.run_bind, this, Result.andThen_ok, Sem.run_pure]
    · cases h
  · cases h

theorem append_types {c : Call} {t tx : TypeId} (ht : c.argTypes.toList = [t, tx]) (he : Nat.beq t tx = true) : c.argTypes = #[t, t] := by
  rw [nbeq] at he
  have : t = tx := of_decide_eq_true he
  subst this
  apply Array.ext'; rw [ht]

theorem bytes_fit {P : Program} {e : TypeId} {i : TyI} (h : TyOK P e i) {inf : TypeInfo} (hi : P.info? e = some inf) {n : Nat} (hn : n ≤ 200000) : n * inf.bytes ≤ 140737488355328 := by
  obtain ⟨inf', h1, h2, h3, h4⟩ := h.info
  rw [hi] at h1; cases h1
  have : n * inf.bytes ≤ 200000 * 1048576 := Nat.mul_le_mul hn h4
  omega

theorem call_append {c : Call} (ho : o.op = .call c) (hb : c.callee = .builtin .append) {s x : AV} (hv : c.args.toList.map (evC tmps) = concL β [s, x]) {t : TypeId} (hty : c.argTypes = #[t, t])
    {a b v : Value} (ha : conc β s = a) (hx : conc β x = b) {w' : World} (hr : (Builtin.append_ #[t, t] o.type #[a, b]).run P w = .ok v w') : (execOp (evC tmps) o).run P w = .ok (.value v) w' := by
  refine call_builtin ho hb hv ?_
  rw [hty]
  simp only [builtin, Sem.run_bind, concL, ha, hx]
  rw [show ([a, b].toArray : Array Value) = #[a, b] from rfl, hr]
  rfl

theorem append_ok (hT : TabOK P T) (H : SR w0 β st tmps defers w) {c : Call} (ho : o.op = .call c) (hb : c.callee = .builtin .append) {t tx : TypeId} (ht : c.argTypes.toList = [t, tx]) (htx : Nat.beq t tx = true)
    {s x : AV} (hsl : s.lt st.nx) (hv : c.args.toList.map (evC tmps) = concL β [s, x]) {steps : List Step} (h : appendA s x (elemSize T (T.ty t)) st = some steps) :
    ∃ s ∈ steps, StepOK P T w0 β st tmps w o s := by
  have hty := append_types ht htx
  unfold appendA at h
  split at h
  · rename_i xi xo xn xz
    split at h
    · rename_i z hz
      obtain ⟨e, te, hu, hte, hsz⟩ := elemSize_ok hT hz
      have ty := hT.ty e te hte
      obtain ⟨inf, zv, hi, hzv, hzc, hisz⟩ := zero_cells ty β
      split at h
      · rename_i hbb
        simp only [Bool.and_eq_true, nbeq, Bool.not_eq_true', decide_eq_false_iff_not, decide_eq_true_eq] at hbb
        obtain ⟨⟨rfl, hxn⟩, hxle⟩ := hbb
        have hxle := Nat.le_of_ble_eq_true hxle
        have hpos : 0 < z := hsz ▸ ty.pos
        have hcz : zv.cells.size = z := by rw [hzc]; simp [concL_map, ty.zsize, hsz]
        have hiz : inf.size = z := by rw [hisz, hsz]
        split at h
        · -- behind nil
          unfold append0 at h
          split at h
          · rename_i new hc
            obtain ⟨hl, hlt, hcell, hone, hflat⟩ := cellsOf_ok H.wr hc
            have hr := run_append_nil (P := P) w t o.type e inf zv hu hi hzv ⟨(β xi).b, (β xi).o + xo, none⟩ xn (((β xi).size - ((β xi).o + xo)) / z) (concL β new)
              (by rw [concL_map, List.length_map, hl, hiz]) hcell (by omega) (by omega) (by have := bytes_fit ty hi (n := xn) (by omega); omega)
            have hge : xn ≤ grownCap w xn 0 e := grownCap_ge w xn 0 e
            have hcs : ((concL β new).toArray ++ Builtin.zeroCells zv.cells (grownCap w xn 0 e - xn)).size = grownCap w xn 0 e * z := by
              rw [Array.size_append, zeroCells_eq, hcz]
              simp only [List.size_toArray, concL_map, List.length_map, hl]
              rw [← Nat.add_mul]; congr 1; omega
            have hW := H.wr.drew.alloc (.cells ((concL β new).toArray ++ Builtin.zeroCells zv.cells (grownCap w xn 0 e - xn)) e) (.cells new) 0 (grownCap w xn 0 e * z) (by
              refine ⟨hlt.mono (by omega), _, e, by rw [upd_same]; exact heap_alloc_new _ _, by rw [upd_same]; exact hcs, ?_, ?_⟩
              · rw [upd_same, hcs, hl]; simp only [Nat.zero_add]; exact Nat.mul_le_mul_right _ hge
              · intro i v hv
                have hi : i < new.length := (List.getElem?_eq_some_iff.1 hv).1
                simp only [upd_same, Nat.zero_add]
                rw [Array.getElem?_append_left (by simpa [concL_map] using hi), List.getElem?_toArray, concL_map, List.getElem?_map, hv, Option.map_some,
                  (upd_ext β st.nx _).conc (hlt v (List.mem_of_getElem? hv))])
            have hx := call_append (P := P) ho hb hv hty rfl (conc_slice ..) hr
            refine one_of _ _ h ⟨_, _, _, .inl hx, upd_ext _ _ _, Nat.le_succ _, rfl, rfl, rfl, hW, some_val ?_ ?_⟩
            · intro k hk; simp [AV.ids] at hk; subst hk; simp [ASt.new]
            · rw [conc_slice]; simp only [upd_same, Nat.add_zero, Nat.sub_zero, World.size_drew]
              rw [Nat.mul_div_cancel _ hpos]
          · cases h
        · -- behind a row
          rename_i si so sn sz
          split at h
          · rename_i hb2
            simp only [Bool.and_eq_true, nbeq, Bool.not_eq_true', decide_eq_false_iff_not, decide_eq_true_eq] at hb2
            obtain ⟨⟨rfl, hne⟩, hsle⟩ := hb2
            have hsle := Nat.le_of_ble_eq_true hsle
            unfold append1 at h
            split at h
            · rename_i new hc
              split at h
              · rename_i sl hslc
                split at h
                · rename_i hlen
                  rw [nbeq, lenR_eq] at hlen
                  have hlen : so + sn * sz = sl.length := of_decide_eq_true hlen
                  rw [appR_eq, dropR_eq] at h
                  have hg := cells_get hslc
                  obtain ⟨hl, hlt, hcell, hone, hflat⟩ := cellsOf_ok H.wr hc
                  obtain ⟨h1, h2, hsll, cur, ct, h3, h4, h5, h6⟩ := H.wr.here si _ hg
                  have hdl : ltL st.nx (sl.drop so) := fun v hv => hsll v (List.mem_of_mem_drop hv)
                  have hnl : ltL st.nx (sl.drop so ++ new) := fun v hv => (List.mem_append.1 hv).elim (hdl v) (hlt v)
                  have hdlen : (sl.drop so).length = sn * sz := by simp; omega
                  have hnlen : (concL β new).length = xn * inf.size := by rw [concL_map, List.length_map, hl, hiz]
                  have hlt' : AV.lt (st.nx + 1) (.slice st.nx 0 (sn + xn) sz) := by intro k hk; simp [AV.ids] at hk; subst hk; omega
                  by_cases hroom : sn + xn ≤ ((β si).size - ((β si).o + so)) / sz
                  · -- in place
                    have hfit : (sn + xn) * sz ≤ (β si).size - ((β si).o + so) := (Nat.le_div_iff_mul_le hpos).1 hroom
                    have hmul : (sn + xn) * sz = sn * sz + xn * sz := Nat.add_mul ..
                    have hbase : (β si).o + so + sn * sz + xn * sz ≤ cur.size := by
                      by_cases h0 : (β si).o + so ≤ (β si).size
                      · omega
                      · have : xn * sz = 0 := by omega
                        omega
                    have hst := run_storeCells_at P (β si).b ((β si).o + so + sn * sz) ct (concL β new) 0 cur w h3 (by rw [hnlen, hiz]; omega) hone
                    have hf := run_firstCells_some (P := P) w inf.size xn ⟨(β xi).b, (β xi).o + xo, none⟩ xn (((β xi).size - ((β xi).o + xo)) / sz) (concL β new) hnlen hcell
                    simp only [Nat.add_zero] at hst
                    generalize hcur' : (cur.toList.take ((β si).o + so + sn * sz) ++ concL β new ++ cur.toList.drop ((β si).o + so + sn * sz + (concL β new).length)).toArray = cur' at hst
                    have hcs : cur'.size = cur.size := by
                      rw [← hcur']; simp only [List.size_toArray, List.length_append, List.length_take, List.length_drop, Array.length_toList, hnlen, hiz]; omega
                    have hrun : (Builtin.append_ #[t, t] o.type #[.slice (some ⟨(β si).b, (β si).o + so, none⟩) sn (((β si).size - ((β si).o + so)) / sz), .slice (some ⟨(β xi).b, (β xi).o + xo, none⟩) xn (((β xi).size - ((β xi).o + xo)) / sz)]).run P w =
                        .ok (.slice (some ⟨(β si).b, (β si).o + so, none⟩) (sn + xn) (((β si).size - ((β si).o + so)) / sz)) (w.setRow (β si).b cur') := by
                      rw [hiz] at hf
                      simp [Builtin.append_, run_underlying hu, Go.sizeOf, typeInfo, hi, Builtin.lenOf, hroom, hf, add_none, hst, hiz]
                    have hx := call_append (P := P) ho hb hv hty (conc_slice ..) (conc_slice ..) hrun
                    have hW := H.wr.move (w' := w.setRow (β si).b cur') (B := .cells (sl.drop so ++ new)) hg (below_setRow (Below.refl _ w) h2 cur') (fun k hk => setRow_other w _ k cur' hk) ((β si).o + so) (β si).size (by
                      refine ⟨hnl.mono (by omega), cur', ct, by rw [upd_same]; exact setRow_heap w _ cur cur' ct (0, 0) h3, by rw [upd_same]; simp only; omega, ?_, ?_⟩
                      · rw [upd_same, List.length_append, hdlen, hl]; simp only; omega
                      · intro i v hv
                        simp only [upd_same]
                        rw [(upd_ext β st.nx _).conc (hnl v (List.mem_of_getElem? hv)), ← hcur', List.getElem?_toArray]
                        by_cases hi : i < sn * sz
                        · rw [List.getElem?_append_left (by rw [hdlen]; exact hi), List.getElem?_drop] at hv
                          rw [List.append_assoc, List.getElem?_append_left (by simp only [List.length_take, Array.length_toList]; omega), List.getElem?_take, if_pos (by omega), Array.getElem?_toList]
                          rw [Nat.add_assoc]
                          exact h6 _ v hv
                        · rw [List.getElem?_append_right (by rw [hdlen]; omega), hdlen] at hv
                          have hiv : i - sn * sz < new.length := (List.getElem?_eq_some_iff.1 hv).1
                          rw [List.append_assoc, List.getElem?_append_right (by simp only [List.length_take, Array.length_toList]; omega), List.getElem?_append_left (by simp only [List.length_take, Array.length_toList, hnlen, hiz]; omega)]
                          rw [concL_map, List.getElem?_map]
                          have : (β si).o + so + i - (List.take ((β si).o + so + sn * sz) cur.toList).length = i - sn * sz := by
                            simp only [List.length_take, Array.length_toList]; omega
                          rw [this, hv]; rfl)
                    refine one_of _ _ h ⟨_, _, _, .inl hx, upd_ext _ _ _, Nat.le_succ _, rfl, rfl, rfl, hW, some_val hlt' ?_⟩
                    rw [conc_slice]; simp only [upd_same, Nat.add_zero]
                  · -- a new row
                    have hcap : ((β si).size - ((β si).o + so)) / sz < sn + xn := by omega
                    have hocell : ∀ j v, (concL β (sl.drop so))[j]? = some v → w.cell? ((⟨(β si).b, (β si).o + so, none⟩ : Addr).add j) = some v := by
                      intro j u hu
                      rw [concL_map, List.getElem?_map, List.getElem?_drop] at hu
                      cases hcj : sl[so + j]? with
                      | none => rw [hcj] at hu; cases hu
                      | some av =>
                        rw [hcj] at hu; simp at hu; subst hu
                        rw [add_none, Nat.add_assoc]
                        exact (H.wr.cell hg hcj).1
                    have holen : (concL β (sl.drop so)).length = sn * inf.size := by rw [concL_map, List.length_map, hdlen, hiz]
                    have hb1 := bytes_fit ty hi (n := sn + xn) (by omega)
                    have hr := run_append_grow (P := P) w t o.type e inf zv hu hi hzv ⟨(β si).b, (β si).o + so, none⟩ sn (((β si).size - ((β si).o + so)) / sz) (concL β (sl.drop so)) holen hocell
                      ⟨(β xi).b, (β xi).o + xo, none⟩ xn (((β xi).size - ((β xi).o + xo)) / sz) (concL β new) hnlen hcell hcap (by omega) (growslice_fits hcap hb1)
                    generalize hG : grownCap w (sn + xn) (((β si).size - ((β si).o + so)) / sz) e = G at hr
                    have hge : sn + xn ≤ G := hG ▸ grownCap_ge w _ _ e
                    have hcs : ((concL β (sl.drop so)).toArray ++ (concL β new).toArray ++ Builtin.zeroCells zv.cells (G - (sn + xn))).size = G * sz := by
                      rw [Array.size_append, Array.size_append, zeroCells_eq, hcz]
                      simp only [List.size_toArray, hnlen, holen, hiz]
                      rw [← Nat.add_mul, ← Nat.add_mul]; congr 1; omega
                    have hx := call_append (P := P) ho hb hv hty (conc_slice ..) (conc_slice ..) hr
                    have hW := (H.wr.sub (AH.del_sub _ si)).drew.alloc (.cells ((concL β (sl.drop so)).toArray ++ (concL β new).toArray ++ Builtin.zeroCells zv.cells (G - (sn + xn))) e) (.cells (sl.drop so ++ new)) 0 (G * sz) (by
                      refine ⟨hnl.mono (by omega), _, e, by rw [upd_same]; exact heap_alloc_new _ _, by rw [upd_same]; exact hcs, ?_, ?_⟩
                      · rw [upd_same, hcs, List.length_append, hdlen, hl, ← Nat.add_mul]; simp only [Nat.zero_add]; exact Nat.mul_le_mul_right _ hge
                      · intro i v hv
                        have hi : i < (sl.drop so ++ new).length := (List.getElem?_eq_some_iff.1 hv).1
                        simp only [upd_same, Nat.zero_add]
                        have e1 : (concL β (sl.drop so)).toArray ++ (concL β new).toArray = (concL β (sl.drop so ++ new)).toArray := by
                          apply Array.ext'; simp [concL_map]
                        rw [e1, Array.getElem?_append_left (by simpa [concL_map] using hi), List.getElem?_toArray, concL_map, List.getElem?_map, hv, Option.map_some,
                          (upd_ext β st.nx _).conc (hnl v (List.mem_of_getElem? hv))])
                    refine one_of _ _ h ⟨_, _, _, .inl hx, upd_ext _ _ _, Nat.le_succ _, rfl, rfl, rfl, hW, some_val hlt' ?_⟩
                    rw [conc_slice]; simp only [upd_same, Nat.add_zero, Nat.sub_zero, World.size_drew]
                    rw [Nat.mul_div_cancel _ hpos]
                · cases h
              · cases h
            · cases h
          · cases h
        · cases h
      · cases h
    · cases h
  · cases h

theorem minN_eq (a b : Nat) : minN a b = Nat.min a b := by
  unfold minN
  rw [nble]
  show _ = min a b
  by_cases h : a ≤ b <;> simp [h] <;> omega

theorem copy_ok (hT : TabOK P T) (H : SR w0 β st tmps defers w) {c : Call} (ho : o.op = .call c) (hb : c.callee = .builtin .copy) {t : TypeId} {ts : List TypeId} (ht : c.argTypes.toList = t :: ts)
    {d s : AV} (hv : c.args.toList.map (evC tmps) = concL β [d, s]) {steps : List Step} (h : copyA d s (elemSize T (T.ty t)) st = some steps) : ∃ s ∈ steps, StepOK P T w0 β st tmps w o s := by
  unfold copyA at h
  split at h
  · rename_i di d0 dn dz
    split at h
    · rename_i si s0 sn sz
      split at h
      · rename_i z hz
        obtain ⟨e, te, hu, hte, hsz⟩ := elemSize_ok hT hz
        have ty := hT.ty e te hte
        obtain ⟨inf, zv, hi, hzv, hzc, hisz⟩ := zero_cells ty β
        split at h
        · rename_i hbb
          simp only [Bool.and_eq_true, nbeq, decide_eq_true_eq] at hbb
          obtain ⟨rfl, rfl⟩ := hbb
          have hiz : inf.size = z := by rw [hisz, hsz]
          split at h
          · rename_i m hm
            split at h
            · rename_i dl hdl
              have hg := cells_get hdl
              unfold copyTo at h
              split at h
              · rename_i l' hsp
                obtain ⟨hle, rfl⟩ := splice_spec hsp
                obtain ⟨hl, hlt, hcell, hone, hflat⟩ := cellsOf_ok H.wr hm
                obtain ⟨w', hst, hW⟩ := storeCells_ok (P := P) m st.heap w dl d0 0 H.wr hg (by omega) hlt hflat
                have ha : c.argTypes[0]? = some t := by rw [← Array.getElem?_toList, ht]; rfl
                have hf := run_firstCells_some (P := P) w inf.size (Nat.min sn dn) ⟨(β si).b, (β si).o + s0, none⟩ sn (((β si).size - ((β si).o + s0)) / z) (concL β m)
                  (by rw [concL_map, List.length_map, hl, hiz, minN_eq]) hcell
                refine one_of _ _ h ⟨β, w', .int .i64 (minN sn dn), .inl (call_builtin ho hb hv ?_), Ext.refl _ _, Nat.le_refl _, rfl, rfl, rfl, ?_, some_val (lt_noids rfl _) rfl⟩
                · have : (Builtin.copy_ c.argTypes o.type (concL β [AV.slice di d0 dn z, AV.slice si s0 sn z]).toArray).run P w = .ok (.int .i64 (minN sn dn)) w' := by
                    rw [hiz] at hf
                    simp [Builtin.copy_, ha, concL, conc_slice, run_underlying hu, Builtin.lenOf, Go.sizeOf, run_typeInfo hi, hiz, hf, hst, goInt, minN_eq]
                  simp only [builtin, Sem.run_bind, this, Result.andThen_ok, Sem.run_pure]
                · simpa using hW
              · cases h
            · cases h
          · cases h
        · cases h
      · cases h
    · cases h
  · cases h

theorem callBuiltin_ok (hT : TabOK P T) (H : SR w0 β st tmps defers w) {c : Call} (ho : o.op = .call c) {b : Builtin} (hb : c.callee = .builtin b) {args : List AV} (hl : ltL st.nx args)
    (hv : c.args.toList.map (evC tmps) = concL β args) {steps : List Step} (h : builtinA T b c.argTypes.toList args st = some steps) : ∃ s ∈ steps, StepOK P T w0 β st tmps w o s := by
  unfold builtinA at h
  split at h
  · split at h
    · split at h
      · rename_i ty ts ht
        exact len_ok hT H ho hb ht hv h
      · cases h
    · cases h
  · split at h
    · split at h
      · rename_i ty tx ht
        split at h
        · rename_i he
          exact append_ok hT H ho hb ht he (hl _ (by simp)) hv h
        · cases h
      · cases h
    · cases h
  · split at h
    · split at h
      · rename_i ty ts ht
        exact copy_ok hT H ho hb ht hv h
      · cases h
    · cases h
  · cases h
end
end Go.Abs
