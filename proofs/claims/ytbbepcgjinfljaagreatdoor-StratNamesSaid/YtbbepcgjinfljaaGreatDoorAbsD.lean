/- How memory may change under the abstract run. -/
import Derived.Test.YtbbepcgjinfljaaGreatDoorAbsC
import GoSem.Dispatch
namespace Go.Abs
open Go.RowKit

theorem ltL.mono {n m : Nat} {l : List AV} (h : ltL n l) (hm : n ≤ m) : ltL m l := fun v hv => (h v hv).mono hm

theorem RowsR.ext {β β' : Beta} {nx nx' : Nat} {rows : List (List OV)} {tmps : Array Value} (h : RowsR β nx rows tmps) (he : Ext nx β β') (hn : nx ≤ nx') : RowsR β' nx' rows tmps := by
  intro t v hv
  obtain ⟨hl, hc⟩ := h t v hv
  exact ⟨hl.mono hn, hc.trans (he.conc hl).symm⟩

theorem entriesOf_ext {β β' : Beta} {es : List (AV × AV)} {nx : Nat} (hl : ∀ e ∈ es, e.1.lt nx ∧ e.2.lt nx) (he : Ext nx β β') : entriesOf β' es = entriesOf β es := by
  unfold entriesOf
  refine List.map_congr_left fun e hm => ?_
  have hm' : e.1 ∈ es := by
    obtain ⟨⟨k, v⟩, i⟩ := e
    exact (List.mem_zipIdx hm).2.2 ▸ List.getElem_mem _
  rw [he.conc (hl _ hm').1, he.conc (hl _ hm').2]

theorem BlockAt.ext {β β' : Beta} {nx nx' : Nat} {w : World} {id : Nat} {B : AB} (h : BlockAt β nx w id B) (hid : id < nx) (he : Ext nx β β') (hn : nx ≤ nx') : BlockAt β' nx' w id B := by
  cases B with
  | cells l =>
    obtain ⟨hl, c, t, h1, h2, h3, h4⟩ := h
    refine ⟨hl.mono hn, c, t, ?_, ?_, ?_, ?_⟩
    · rw [he id hid]; exact h1
    · rw [he id hid]; exact h2
    · rw [he id hid]; exact h3
    · intro i v hv
      rw [he id hid, h4 i v hv, he.conc (hl v (List.mem_of_getElem? hv))]
  | map es =>
    obtain ⟨hl, en, h1, h2⟩ := h
    exact ⟨hl, en, by rw [he id hid]; exact h1, by rw [h2, entriesOf_ext (nx := nx) (fun e hm => ⟨(hl e hm).1.mono (Nat.zero_le _), (hl e hm).2.mono (Nat.zero_le _)⟩) he]⟩
  | iter m n seen cur =>
    obtain ⟨hm, h0, sc, h1, h2, h3⟩ := h
    exact ⟨Nat.lt_of_lt_of_le hm hn, by rw [he id hid]; exact h0, sc, by rw [he id hid, he m hm]; exact h1, h2, h3⟩
  | loop r =>
    obtain ⟨d, tmps, h1, h2, h3⟩ := h
    exact ⟨d, tmps, by rw [he id hid]; exact h1, h2, h3.ext he hn⟩
  | defd =>
    show w.heap[(β' id).b]? = _
    rw [he id hid]; exact h

/-- A block is told by its own place alone. -/
theorem BlockAt.frame {β : Beta} {nx : Nat} {w w' : World} {id : Nat} {B : AB} (h : BlockAt β nx w id B) (hw : w'.heap[(β id).b]? = w.heap[(β id).b]?) : BlockAt β nx w' id B := by
  cases B with
  | cells l => obtain ⟨hl, c, t, h1, h2⟩ := h; exact ⟨hl, c, t, hw.trans h1, h2⟩
  | map es => obtain ⟨hl, en, h1, h2⟩ := h; exact ⟨hl, en, hw.trans h1, h2⟩
  | iter m n seen cur => obtain ⟨hm, h0, sc, h1, h2⟩ := h; exact ⟨hm, h0, sc, hw.trans h1, h2⟩
  | loop r => obtain ⟨d, tmps, h1, h2⟩ := h; exact ⟨d, tmps, hw.trans h1, h2⟩
  | defd => exact hw.trans h

theorem BlockAt.lt {β : Beta} {nx : Nat} {w : World} {id : Nat} {B : AB} (h : BlockAt β nx w id B) : (β id).b < w.heap.size := by
  have : ∃ o, w.heap[(β id).b]? = some o := by
    cases B with
    | cells l => obtain ⟨hl, c, t, h1, h2⟩ := h; exact ⟨_, h1⟩
    | map es => obtain ⟨hl, en, h1, h2⟩ := h; exact ⟨_, h1⟩
    | iter m n seen cur => obtain ⟨hm, h0, sc, h1, h2⟩ := h; exact ⟨_, h1⟩
    | loop r => obtain ⟨d, tmps, h1, h2⟩ := h; exact ⟨_, h1⟩
    | defd => exact ⟨_, h⟩
  obtain ⟨o, ho⟩ := this
  rcases Nat.lt_or_ge (β id).b w.heap.size with h | h
  · exact h
  · rw [Array.getElem?_eq_none h] at ho; cases ho

theorem WR.frame {w0 : World} {β : Beta} {h : AH} {nx : Nat} {w w' : World} (H : WR w0 β h nx w) (hb : Below w0.heap.size w w')
    (hw : ∀ id B, h.get id = some B → w'.heap[(β id).b]? = w.heap[(β id).b]?) : WR w0 β h nx w' :=
  ⟨H.below.trans hb, H.nd, fun id B hg => ⟨(H.here id B hg).1, (H.here id B hg).2.1, (H.here id B hg).2.2.frame (hw id B hg)⟩, H.apart⟩

theorem below_drew (B : Nat) (w : World) : Below B w w.drew := ⟨rfl, rfl, rfl, Nat.le_refl _, fun _ _ => rfl⟩
theorem WR.drew {w0 : World} {β : Beta} {h : AH} {nx : Nat} {w : World} (H : WR w0 β h nx w) : WR w0 β h nx w.drew :=
  H.frame (below_drew _ _) fun _ _ _ => rfl

theorem WR.ext {w0 : World} {β β' : Beta} {h : AH} {nx nx' : Nat} {w : World} (H : WR w0 β h nx w) (he : Ext nx β β') (hn : nx ≤ nx') : WR w0 β' h nx' w := by
  refine ⟨H.below, H.nd, fun id B hg => ?_, fun i j Bi Bj hi hj hij => ?_⟩
  · obtain ⟨h1, h2, h3⟩ := H.here id B hg
    exact ⟨Nat.lt_of_lt_of_le h1 hn, by rw [he id h1]; exact h2, h3.ext h1 he hn⟩
  · rw [he i (H.here i Bi hi).1, he j (H.here j Bj hj).1]; exact H.apart i j Bi Bj hi hj hij

/-- Where a new block lies. -/
def upd (β : Beta) (n : Nat) (x : BI) : Beta := fun i => if i = n then x else β i
theorem upd_ext (β : Beta) (n : Nat) (x : BI) : Ext n β (upd β n x) := fun i hi => by simp [upd, Nat.ne_of_lt hi]
@[simp] theorem upd_same (β : Beta) (n : Nat) (x : BI) : upd β n x n = x := by simp [upd]

theorem below_alloc (B : Nat) (w : World) (o : Obj) (h : B ≤ w.heap.size) : Below B w (w.alloc o) :=
  (Below.refl B w).alloc h o

theorem heap_alloc_lt {w : World} {o : Obj} {k : Nat} (h : k < w.heap.size) : (w.alloc o).heap[k]? = w.heap[k]? := by
  show (w.heap.push o)[k]? = _
  rw [Array.getElem?_push]; simp [Nat.ne_of_lt h]
theorem heap_alloc_new (w : World) (o : Obj) : (w.alloc o).heap[w.heap.size]? = some o := by
  show (w.heap.push o)[w.heap.size]? = _
  simp

/-- A new block. -/
theorem WR.alloc {w0 : World} {β : Beta} {h : AH} {nx : Nat} {w : World} (H : WR w0 β h nx w) (o : Obj) (B : AB) (off size : Nat)
    (hB : BlockAt (upd β nx ⟨w.heap.size, off, size⟩) (nx + 1) (w.alloc o) nx B) :
    WR w0 (upd β nx ⟨w.heap.size, off, size⟩) ((nx, B) :: h) (nx + 1) (w.alloc o) := by
  have he := upd_ext β nx ⟨w.heap.size, off, size⟩
  have hs : w0.heap.size ≤ w.heap.size := H.below.size
  have fresh : ∀ B, h.get nx ≠ some B := fun B hg => Nat.lt_irrefl _ (H.here nx B hg).1
  refine ⟨H.below.trans (below_alloc _ _ _ hs), ?_, ?_, ?_⟩
  · simp only [List.map_cons, List.nodup_cons]
    refine ⟨fun hm => ?_, H.nd⟩
    obtain ⟨⟨i, B'⟩, hm', hi⟩ := List.mem_map.1 hm
    simp only at hi; subst hi
    exact fresh B' (AH.get_of_mem H.nd hm')
  · intro id B' hg
    rw [AH.get_cons] at hg
    by_cases hid : nx = id
    · subst hid; simp only [if_true] at hg; cases hg
      exact ⟨by omega, by simpa using hs, hB⟩
    · simp only [hid, if_false] at hg
      obtain ⟨h1, h2, h3⟩ := H.here id B' hg
      refine ⟨by omega, by rw [he id h1]; exact h2, ?_⟩
      exact (h3.frame (heap_alloc_lt h3.lt)).ext h1 he (by omega)
  · have old : ∀ i Bi, h.get i = some Bi → (upd β nx ⟨w.heap.size, off, size⟩ i).b < w.heap.size := fun i Bi hi => by
      rw [he i (H.here i Bi hi).1]; exact (H.here i Bi hi).2.2.lt
    intro i j Bi Bj hi hj hij
    rw [AH.get_cons] at hi hj
    by_cases h1 : nx = i <;> by_cases h2 : nx = j
    · exact absurd (h1.symm.trans h2) hij
    · simp only [h2, if_false] at hj; subst h1; have := old j Bj hj; simp; omega
    · simp only [h1, if_false] at hi; subst h2; have := old i Bi hi; simp; omega
    · simp only [h1, if_false] at hi; simp only [h2, if_false] at hj
      rw [he i (H.here i Bi hi).1, he j (H.here j Bj hj).1]; exact H.apart i j Bi Bj hi hj hij

/-- One block is turned, the others stay. -/
theorem WR.turn {w0 : World} {β : Beta} {h : AH} {nx : Nat} {w w' : World} (H : WR w0 β h nx w) {id : Nat} {B B' : AB} (hg : h.get id = some B)
    (hb : Below w0.heap.size w w') (ho : ∀ k, k ≠ (β id).b → w'.heap[k]? = w.heap[k]?) (hB : BlockAt β nx w' id B') : WR w0 β (h.put id B') nx w' := by
  have up : ∀ j Bj, (h.put id B').get j = some Bj → (j = id ∧ Bj = B') ∨ (j ≠ id ∧ h.get j = some Bj) := fun j Bj hj => by
    rw [AH.get_put hg] at hj
    by_cases h : j = id
    · simp [h] at hj; exact .inl ⟨h, hj.symm⟩
    · simp [h] at hj; exact .inr ⟨h, hj⟩
  refine ⟨H.below.trans hb, by rw [AH.put_keys]; exact H.nd, fun j Bj hj => ?_, fun i j Bi Bj hi hj hij => ?_⟩
  · rcases up j Bj hj with ⟨rfl, rfl⟩ | ⟨hne, hj⟩
    · exact ⟨(H.here _ _ hg).1, (H.here _ _ hg).2.1, hB⟩
    · obtain ⟨h1, h2, h3⟩ := H.here j Bj hj
      exact ⟨h1, h2, h3.frame (ho _ (H.apart j id Bj B hj hg hne))⟩
  · have live : ∀ j Bj, (h.put id B').get j = some Bj → ∃ C, h.get j = some C := fun j Bj hj => by
      rcases up j Bj hj with ⟨rfl, _⟩ | ⟨_, hj⟩
      · exact ⟨_, hg⟩
      · exact ⟨_, hj⟩
    obtain ⟨Ci, hi⟩ := live i Bi hi
    obtain ⟨Cj, hj⟩ := live j Bj hj
    exact H.apart i j Ci Cj hi hj hij

/-! ### Reading and writing cells. -/
theorem cells_get {h : AH} {id : Nat} {l : List AV} (hc : h.cells id = some l) : h.get id = some (.cells l) := by
  unfold AH.cells at hc
  split at hc
  · rename_i m hm; simp at hc; subst hc; exact hm
  · cases hc

theorem WR.cell {w0 : World} {β : Beta} {h : AH} {nx : Nat} {w : World} (H : WR w0 β h nx w) {id : Nat} {l : List AV} (hg : h.get id = some (.cells l)) {i : Nat} {v : AV}
    (hv : l[i]? = some v) : w.cell? ⟨(β id).b, (β id).o + i, none⟩ = some (conc β v) ∧ v.lt nx := by
  obtain ⟨h1, h2, hl, c, t, h3, h4, h5, h6⟩ := H.here id _ hg
  refine ⟨?_, hl v (List.mem_of_getElem? hv)⟩
  simp [World.cell?, h3, h6 i v hv]

theorem WR.frozen {w0 : World} {β : Beta} {h : AH} {nx : Nat} {w : World} (H : WR w0 β h nx w) {id : Nat} {l : List AV} (hg : h.get id = some (.cells l)) (off : Nat) :
    w.frozen? ⟨(β id).b, off, none⟩ = false := by
  obtain ⟨h1, h2, hl, c, t, h3, h4, h5, h6⟩ := H.here id _ hg
  simp [World.frozen?, h3]

/-- A world with one cell turned. -/
theorem setCell_heap (w : World) (b o : Nat) (v : Value) (c : Array Value) (t : TypeId) (h : w.heap[b]? = some (.cells c t (0, 0))) :
    (w.setCell ⟨b, o, none⟩ v).heap[b]? = some (.cells (c.setIfInBounds o v) t (0, 0)) ∧ ∀ k, k ≠ b → (w.setCell ⟨b, o, none⟩ v).heap[k]? = w.heap[k]? := by
  have hb : b < w.heap.size := by
    rcases Nat.lt_or_ge b w.heap.size with h' | h'
    · exact h'
    · rw [Array.getElem?_eq_none h'] at h; cases h
  constructor
  · simp only [World.setCell, Array.getElem?_modify]
    simp [h]
  · intro k hk
    simp only [World.setCell, Array.getElem?_modify]
    rw [if_neg (fun h : b = k => hk h.symm)]

theorem below_setCell {w0 w : World} (_hb : Below w0.heap.size w0 w) {b o : Nat} {v : Value} (h : w0.heap.size ≤ b) : Below w0.heap.size w (w.setCell ⟨b, o, none⟩ v) :=
  (Below.refl _ w).setCell h v

theorem WR.setCell {w0 : World} {β : Beta} {h : AH} {nx : Nat} {w : World} (H : WR w0 β h nx w) {id : Nat} {l : List AV} (hg : h.get id = some (.cells l)) {i : Nat} (hi : i < l.length) {v : AV}
    (hv : v.lt nx) : WR w0 β (h.put id (.cells (l.set i v))) nx (w.setCell ⟨(β id).b, (β id).o + i, none⟩ (conc β v)) := by
  obtain ⟨h1, h2, hl, c, t, h3, h4, h5, h6⟩ := H.here id _ hg
  obtain ⟨s1, s2⟩ := setCell_heap w (β id).b ((β id).o + i) (conc β v) c t h3
  refine H.turn hg (below_setCell H.below h2) s2 ⟨?_, _, t, s1, by simpa using h4, by simpa using h5, ?_⟩
  · intro u hu
    rcases List.mem_or_eq_of_mem_set hu with h | h
    · exact hl u h
    · exact h ▸ hv
  · intro j u hu
    rw [List.getElem?_set] at hu
    by_cases hij : i = j
    · subst hij; simp [hi] at hu; subst hu
      simp [Array.getElem?_setIfInBounds]; omega
    · simp [hij] at hu
      rw [Array.getElem?_setIfInBounds]
      rw [if_neg (by omega)]
      exact h6 j u hu
end Go.Abs
