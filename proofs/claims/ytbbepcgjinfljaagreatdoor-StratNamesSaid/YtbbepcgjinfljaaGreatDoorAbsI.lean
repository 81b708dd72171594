/- New rows, append, copy, len. -/
import Derived.Test.YtbbepcgjinfljaaGreatDoorAbsH
namespace Go.Abs
open Go.RowKit

section
variable {P : Program} {T : Tab} {w0 : World} {β : Beta} {st : ASt} {tmps : Array Value} {defers : List Deferred} {w : World} {o : Oper}

theorem rep_eq (n : Nat) (l : List AV) : rep n l = (List.replicate n l).flatten := by
  induction n with
  | zero => rfl
  | succ n ih => show appR l (rep n l) = _; rw [appR_eq, ih, List.replicate_succ, List.flatten_cons]
theorem rep_length (n : Nat) (l : List AV) : (rep n l).length = n * l.length := by
  rw [rep_eq]; simp [List.length_flatten]
theorem rep_lt {k n : Nat} {l : List AV} (h : ltL k l) : ltL k (rep n l) := by
  rw [rep_eq]
  intro v hv
  obtain ⟨m, hm, hv⟩ := List.mem_flatten.1 hv
  exact h v ((List.mem_replicate.1 hm).2 ▸ hv)

/-- The cells of n zeros. -/
theorem zeros_get (z : Array Value) (_hz : 0 < z.size) (n i : Nat) (h : i < n * z.size) : ((List.replicate n z.toList).flatten)[i]? = some (z[i % z.size]!) := by
  induction n generalizing i with
  | zero => omega
  | succ n ih =>
    rw [List.replicate_succ, List.flatten_cons]
    by_cases hi : i < z.size
    · rw [List.getElem?_append_left (by simpa using hi), Nat.mod_eq_of_lt hi]
      simp [hi]
    · rw [List.getElem?_append_right (by simpa using hi)]
      have e : (n + 1) * z.size = n * z.size + z.size := Nat.succ_mul _ _
      rw [Array.length_toList, ih (i - z.size) (by omega)]
      congr 2
      rw [← Nat.mod_eq_sub_mod (by omega)]
theorem zeros_eq (z : Array Value) (hz : 0 < z.size) (n : Nat) : ((Array.range (n * z.size)).map (z[· % z.size]!)).toList = (List.replicate n z.toList).flatten := by
  apply List.ext_getElem?
  intro i
  by_cases hi : i < n * z.size
  · rw [zeros_get z hz n i hi]; simp [hi]
  · rw [List.getElem?_eq_none (by simp; omega), List.getElem?_eq_none (by simp [List.length_flatten]; omega)]
theorem concL_rep (β : Beta) (n : Nat) (l : List AV) : concL β (rep n l) = (List.replicate n (concL β l)).flatten := by
  rw [rep_eq, concL_map, concL_map, List.map_flatten, List.map_replicate]

theorem opBuildSlice_ok (hT : TabOK P T) (H : SR w0 β st tmps defers w) {t : TypeId} {n : Nat} {ps : Array (Nat × Operand)} (ho : o.op = .buildSlice t n ps) {steps : List Step}
    (h : opBuildSlice T (T.ty t) n (evParts st ps.toList) st = some steps) : ∃ s ∈ steps, StepOK P T w0 β st tmps w o s := by
  unfold opBuildSlice at h
  split at h
  · rename_i e s zz ht
    obtain ⟨d, hd, hk⟩ := (hT.ty t _ ht).und
    cases hk
    split at h
    · rename_i l hl
      split at h
      · rename_i te hte
        split at h
        · rename_i hn
          split at h
          · rename_i c hc
            have ty := hT.ty e te hte
            obtain ⟨h1, h2⟩ := evParts_ok H hl
            obtain ⟨inf, z, hi, hz, hzc, hsz⟩ := zero_cells ty β
            simp only [Bool.and_eq_true, nbeq, Bool.not_eq_true', decide_eq_false_iff_not] at hn
            obtain ⟨hn, hbig⟩ := hn
            have hbig := Nat.le_of_ble_eq_true hbig
            have hbig : ¬ (n * te.size > 2 ^ 24) := by omega
            obtain ⟨hlt, hlen⟩ := fill_lt l _ c hc (rep_lt (cells_lt (lt_noids ty.noids st.nx))) h1
            rw [rep_length, ty.zsize] at hlen
            have hzs : z.cells.size = te.size := by rw [hzc]; simp [concL_map, ty.zsize]
            have hzero : ((Array.range (n * te.size)).map (z.cells[· % z.cells.size]!)) = (concL β (rep n te.zero.cells)).toArray := by
              apply Array.ext'
              rw [← hzs, zeros_eq _ (by rw [hzs]; exact ty.pos), hzc, concL_rep]
            have hfill := fill_ok (β := β) (place := fun i => some (i * te.size, te.size)) (place' := fun i => some (i * te.size, te.size)) (fun _ _ h => h) l _ c hc
            have hnz : n * te.size ≠ 0 := Nat.mul_ne_zero hn (by have := ty.pos; omega)
            have hps : (ps.map fun (i, x) => (i, evC tmps x)).toList = l.map fun p => (p.1, conc β p.2) := by
              rw [Array.toList_map]; exact h2
            have hcs : (concL β c).toArray.size = n * te.size := by simp [concL_map, hlen]
            refine one_of _ _ h ⟨_, _, .slice (some ⟨w.heap.size, 0, none⟩) n n, .inl ?_, upd_ext _ _ _, Nat.le_succ _, rfl, rfl, rfl, new_cells H (t := e) hlt (c := (concL β c).toArray) rfl, some_val ?_ ?_⟩
            · have hbig' : ¬ (2 ^ 24 < n * te.size) := by omega
              simp only [execOp, ho, Sem.run_bind, Instr.buildSlice, run_underlying hd, Result.andThen_ok, ty.sizeOf, Sem.run_ite, hbig, if_false, hnz, zeroValue, run_typeInfo hi, hz, Sem.run_pure, hzero, hps, hfill, newRow, run_newObj]
              rfl
            · intro k hk; simp [AV.ids] at hk; subst hk; simp [ASt.new]
            · simp only [conc, upd_same, Nat.add_zero, Nat.sub_zero, hcs]
              rw [Nat.mul_div_cancel _ ty.pos]
          · cases h
        · cases h
      · cases h
    · cases h
  · cases h

theorem opMakeSlice_ok (hT : TabOK P T) (H : SR w0 β st tmps defers w) {t : TypeId} {l c : Operand} (ho : o.op = .makeSlice t l c) {steps : List Step}
    (h : opMakeSlice T (T.ty t) (natOf (st.ev l)) (natOf (st.ev c)) st = some steps) : ∃ s ∈ steps, StepOK P T w0 β st tmps w o s := by
  unfold opMakeSlice at h
  split at h
  · rename_i e s zz ht
    obtain ⟨d, hd, hk⟩ := (hT.ty t _ ht).und
    cases hk
    split at h
    · rename_i n hn
      split at h
      · rename_i m hm
        split at h
        · rename_i te hte
          split at h
          · rename_i hb
            simp only [Bool.and_eq_true, nbeq, Bool.not_eq_true', decide_eq_false_iff_not, decide_eq_true_eq] at hb
            obtain ⟨⟨rfl, hn0⟩, hle⟩ := hb
            have hle := Nat.le_of_ble_eq_true hle
            have ty := hT.ty e te hte
            obtain ⟨inf, h1, h2, h3, h4⟩ := ty.info
            obtain ⟨inf', z, hi, hz, hzc, hsz⟩ := zero_cells ty β
            obtain rfl : inf = inf' := by rw [h1] at hi; exact Option.some.inj hi
            have hzs : z.cells.size = te.size := by rw [hzc]; simp [concL_map, ty.zsize]
            have hzero : madeCells z.cells (n * inf.size) = (concL β (rep n te.zero.cells)).toArray := by
              apply Array.ext'
              rw [madeCells, hsz, ← hzs, zeros_eq _ (by rw [hzs]; exact ty.pos), hzc, concL_rep]
            have hbytes : (inf.bytes : Int) * (Int.ofNat n) ≤ 281474976710656 := by
              have : inf.bytes * n ≤ 1048576 * 1000 := Nat.mul_le_mul h4 hle
              have h' : ((inf.bytes * n : Nat) : Int) ≤ 281474976710656 := by omega
              simpa [Int.natCast_mul] using h'
            have hr := run_make (P := P) w t e inf z hd hi hz .i64 .i64 (Int.ofNat n) (Int.ofNat n) (by simp) (by simp) hbytes (by simp; omega)
            have e1 := natOf_ok H hn
            have e2 := natOf_ok H hm
            refine one_of _ _ h ⟨_, _, .slice (some ⟨w.heap.size, 0, none⟩) n n, .inl ?_, upd_ext _ _ _, Nat.le_succ _, rfl, rfl, rfl,
              new_cells H (t := e) (rep_lt (cells_lt (lt_noids ty.noids st.nx))) (c := (concL β (rep n te.zero.cells)).toArray) rfl, some_val ?_ ?_⟩
            · simp only [execOp, ho, e1, e2, Sem.run_bind, hr, Result.andThen_ok, Sem.run_pure]
              simp only [Int.toNat_natCast, Int.ofNat_eq_natCast, hzero]
            · intro k hk; simp [AV.ids] at hk; subst hk; simp [ASt.new]
            · have hcs : (concL β (rep n te.zero.cells)).toArray.size = n * te.size := by simp [concL_map, rep_length, ty.zsize]
              simp only [conc, upd_same, Nat.add_zero, Nat.sub_zero, hcs]
              rw [Nat.mul_div_cancel _ ty.pos]
          · cases h
        · cases h
      · cases h
    · cases h
  · cases h
end
end Go.Abs
