/- What abstract values stand for: where blocks lie; memory, slots and what is deferred, as the abstract run has them. -/
import Derived.Test.YtbbepcgjinfljaaGreatDoorAbsB
import Derived.Below
import Derived.Laws.World
namespace Go.Abs
open Go.RowKit

/-! ### The lists by recursors are the lists of the library. -/
section
variable {α β : Type}
@[simp] theorem getR_eq (l : List α) : ∀ n, getR l n = l[n]? := by
  induction l with
  | nil => intro n; rfl
  | cons a r ih => intro n; cases n with
    | zero => rfl
    | succ n => exact (ih n).trans (by simp)
@[simp] theorem setR_eq (l : List α) : ∀ n v, setR l n v = l.set n v := by
  induction l with
  | nil => intro n v; rfl
  | cons a r ih => intro n v; cases n with
    | zero => rfl
    | succ n => exact congrArg (a :: ·) (ih n v)
@[simp] theorem lenR_eq (l : List α) : lenR l = l.length := by
  induction l with
  | nil => rfl
  | cons a r ih => exact congrArg Nat.succ ih
@[simp] theorem appR_eq (l m : List α) : appR l m = l ++ m := by
  induction l with
  | nil => rfl
  | cons a r ih => exact congrArg (a :: ·) ih
@[simp] theorem dropR_eq (l : List α) : ∀ n, dropR l n = l.drop n := by
  induction l with
  | nil => intro n; cases n <;> rfl
  | cons a r ih => intro n; cases n with
    | zero => rfl
    | succ n => exact ih n
@[simp] theorem takeR_eq (l : List α) : ∀ n, takeR l n = l.take n := by
  induction l with
  | nil => intro n; cases n <;> rfl
  | cons a r ih => intro n; cases n with
    | zero => rfl
    | succ n => exact congrArg (a :: ·) (ih n)
@[simp] theorem mapR_eq (f : α → β) (l : List α) : mapR f l = l.map f := by
  induction l with
  | nil => rfl
  | cons a r ih => exact congrArg (f a :: ·) ih
@[simp] theorem repR_eq (n : Nat) (a : α) : repR n a = List.replicate n a := by
  induction n with
  | zero => rfl
  | succ n ih => exact congrArg (a :: ·) ih
@[simp] theorem anyR_eq (f : α → Bool) (l : List α) : anyR f l = l.any f := by
  induction l with
  | nil => rfl
  | cons a r ih =>
    show (match f a with | true => true | false => anyR f r) = (f a || r.any f)
    cases f a <;> simp [ih]
@[simp] theorem allR_eq (f : α → Bool) (l : List α) : allR f l = l.all f := by
  induction l with
  | nil => rfl
  | cons a r ih =>
    show (match f a with | true => allR f r | false => false) = (f a && r.all f)
    cases f a <;> simp [ih]
end
theorem nbeq (a b : Nat) : Nat.beq a b = decide (a = b) := by
  rw [Bool.eq_iff_iff]; simp
theorem nbeq_ne {a b : Nat} (h : a ≠ b) : Nat.beq a b = false := by rw [nbeq]; simp [h]
@[simp] theorem memN_eq (n : Nat) (l : List Nat) : memN n l = decide (n ∈ l) := by
  unfold memN
  rw [anyR_eq]
  rw [Bool.eq_iff_iff]
  simp [nbeq]

/-! ### Where blocks lie. -/
structure BI where
  b : Nat
  o : Nat
  size : Nat
abbrev Beta := Nat → BI

mutual
def conc (β : Beta) : AV → Value
  | .bool b => .bool b
  | .int k n => .int k n
  | .ptr id off => .pointer (some ⟨(β id).b, (β id).o + off, none⟩)
  | .nilptr => .pointer none
  | .slice id off len sz => .slice (some ⟨(β id).b, (β id).o + off, none⟩) len (((β id).size - ((β id).o + off)) / sz)
  | .sliceE id off low sz =>
    if ((β id).size - ((β id).o + off)) / sz = low then .slice (some ⟨(β id).b, (β id).o + off, none⟩) 0 0
    else .slice (some ⟨(β id).b, (β id).o + off + low * sz, none⟩) 0 (((β id).size - ((β id).o + off)) / sz - low)
  | .nilslice => .slice none 0 0
  | .map id => .map (some (β id).b)
  | .nilmap => .map none
  | .func f a c => .func (.func f) (concL β a).toArray (concL β c).toArray
  | .yield id => .func (.yield (β id).b) #[] #[]
  | .nilfunc => .nilFunc
  | .iface t v => .iface t (conc β v)
  | .niliface => .nilIface
  | .agg cs => .agg (concL β cs).toArray
  | .tuple vs => .tuple (concL β vs).toArray
def concL (β : Beta) : List AV → List Value
  | [] => []
  | a :: r => conc β a :: concL β r
end

theorem concL_map (β : Beta) (l : List AV) : concL β l = l.map (conc β) := by
  induction l with
  | nil => rfl
  | cons a r ih => simp [concL, ih]

/-- All names in a value are below a number. -/
def AV.lt (n : Nat) (v : AV) : Prop := ∀ i ∈ v.ids, i < n
def ltL (n : Nat) (l : List AV) : Prop := ∀ v ∈ l, v.lt n

theorem idsL_mem {l : List AV} {i : Nat} : i ∈ AV.idsL l ↔ ∃ v ∈ l, i ∈ v.ids := by
  induction l with
  | nil => simp [AV.idsL]
  | cons a r ih => simp [AV.idsL, ih]

mutual
theorem conc_ren (β β' : Beta) (f : Nat → Nat) : ∀ v : AV, (∀ i ∈ v.ids, β' (f i) = β i) → conc β' (v.ren f) = conc β v
  | .bool _, _ => rfl
  | .int _ _, _ => rfl
  | .ptr id o, h => by simp [AV.ren, conc, h id (by simp [AV.ids])]
  | .nilptr, _ => rfl
  | .slice id _ _ _, h => by simp [AV.ren, conc, h id (by simp [AV.ids])]
  | .sliceE id _ _ _, h => by simp [AV.ren, conc, h id (by simp [AV.ids])]
  | .nilslice, _ => rfl
  | .map id, h => by simp [AV.ren, conc, h id (by simp [AV.ids])]
  | .nilmap, _ => rfl
  | .func g a c, h => by
    simp only [AV.ren, conc]
    rw [concL_ren β β' f a (fun i hi => h i (by simp [AV.ids, hi])), concL_ren β β' f c (fun i hi => h i (by simp [AV.ids, hi]))]
  | .yield id, h => by simp [AV.ren, conc, h id (by simp [AV.ids])]
  | .nilfunc, _ => rfl
  | .iface t v, h => by simp only [AV.ren, conc]; rw [conc_ren β β' f v (fun i hi => h i (by simpa [AV.ids] using hi))]
  | .niliface, _ => rfl
  | .agg cs, h => by simp only [AV.ren, conc]; rw [concL_ren β β' f cs (fun i hi => h i (by simpa [AV.ids] using hi))]
  | .tuple cs, h => by simp only [AV.ren, conc]; rw [concL_ren β β' f cs (fun i hi => h i (by simpa [AV.ids] using hi))]
theorem concL_ren (β β' : Beta) (f : Nat → Nat) : ∀ l : List AV, (∀ i ∈ AV.idsL l, β' (f i) = β i) → concL β' (AV.renL f l) = concL β l
  | [], _ => rfl
  | a :: r, h => by
    simp only [AV.renL, concL]
    rw [conc_ren β β' f a (fun i hi => h i (by simp [AV.idsL, hi])), concL_ren β β' f r (fun i hi => h i (by simp [AV.idsL, hi]))]
end

mutual
theorem conc_congr (β β' : Beta) : ∀ v : AV, (∀ i ∈ v.ids, β' i = β i) → conc β' v = conc β v
  | .bool _, _ => rfl
  | .int _ _, _ => rfl
  | .ptr id o, h => by simp [conc, h id (by simp [AV.ids])]
  | .nilptr, _ => rfl
  | .slice id _ _ _, h => by simp [conc, h id (by simp [AV.ids])]
  | .sliceE id _ _ _, h => by simp [conc, h id (by simp [AV.ids])]
  | .nilslice, _ => rfl
  | .map id, h => by simp [conc, h id (by simp [AV.ids])]
  | .nilmap, _ => rfl
  | .func g a c, h => by
    simp only [conc]
    rw [concL_congr β β' a (fun i hi => h i (by simp [AV.ids, hi])), concL_congr β β' c (fun i hi => h i (by simp [AV.ids, hi]))]
  | .yield id, h => by simp [conc, h id (by simp [AV.ids])]
  | .nilfunc, _ => rfl
  | .iface t v, h => by simp only [conc]; rw [conc_congr β β' v (fun i hi => h i (by simpa [AV.ids] using hi))]
  | .niliface, _ => rfl
  | .agg cs, h => by simp only [conc]; rw [concL_congr β β' cs (fun i hi => h i (by simpa [AV.ids] using hi))]
  | .tuple cs, h => by simp only [conc]; rw [concL_congr β β' cs (fun i hi => h i (by simpa [AV.ids] using hi))]
theorem concL_congr (β β' : Beta) : ∀ l : List AV, (∀ i ∈ AV.idsL l, β' i = β i) → concL β' l = concL β l
  | [], _ => rfl
  | a :: r, h => by
    simp only [concL]
    rw [conc_congr β β' a (fun i hi => h i (by simp [AV.idsL, hi])), concL_congr β β' r (fun i hi => h i (by simp [AV.idsL, hi]))]
end

/-- The later lying of blocks goes on where the elder one ends. -/
def Ext (n : Nat) (β β' : Beta) : Prop := ∀ i, i < n → β' i = β i
theorem Ext.refl (n : Nat) (β : Beta) : Ext n β β := fun _ _ => rfl
theorem Ext.trans {n m : Nat} {β β' β'' : Beta} (h : Ext n β β') (h' : Ext m β' β'') (hm : n ≤ m) : Ext n β β'' :=
  fun i hi => (h' i (Nat.lt_of_lt_of_le hi hm)).trans (h i hi)
theorem Ext.conc {n : Nat} {β β' : Beta} (h : Ext n β β') {v : AV} (hv : v.lt n) : conc β' v = conc β v :=
  conc_congr β β' v fun i hi => h i (hv i hi)
theorem AV.lt.mono {n m : Nat} {v : AV} (h : v.lt n) (hm : n ≤ m) : v.lt m := fun i hi => Nat.lt_of_lt_of_le (h i hi) hm
theorem Ext.concL {n : Nat} {β β' : Beta} (h : Ext n β β') {l : List AV} (hl : ltL n l) : concL β' l = concL β l :=
  concL_congr β β' l fun i hi => by obtain ⟨v, hv, hi⟩ := idsL_mem.1 hi; exact h i (hl v hv i hi)

/-! ### Blocks. -/
/-- What slots hold. -/
def RowsR (β : Beta) (nx : Nat) (rows : List (List OV)) (tmps : Array Value) : Prop :=
  ∀ t v, rget rows t = some v → v.lt nx ∧ tmps.getD t undef = conc β v

def entriesOf (β : Beta) (es : List (AV × AV)) : List MapEntry :=
  (es.zipIdx).map fun e => { key := conc β e.1.1, val := conc β e.1.2, born := e.2 }

def BlockAt (β : Beta) (nx : Nat) (w : World) (id : Nat) : AB → Prop
  | .cells l => ltL nx l ∧ ∃ c t, w.heap[(β id).b]? = some (.cells c t (0, 0)) ∧ c.size = (β id).size ∧ (β id).o + l.length ≤ c.size ∧
      ∀ i v, l[i]? = some v → c[(β id).o + i]? = some (conc β v)
  | .map es => (∀ e ∈ es, e.1.lt 0 ∧ e.2.lt 0) ∧ ∃ en : Array MapEntry, w.heap[(β id).b]? = some (.map en es.length) ∧ en.toList = entriesOf β es
  | .iter m n seen cur => m < nx ∧ (β id).o = 0 ∧ ∃ sc : Array Nat, w.heap[(β id).b]? = some (.mapIter (some (β m).b) n sc n) ∧
      (∀ i, i < n → (sc.contains i = true ↔ i ∈ seen)) ∧ (∀ j, cur = some j → sc.back? = some j)
  | .loop r => ∃ d tmps, w.heap[(β id).b]? = some (.loop { state := if r.busy then .busy else if r.jump.isNone then .ready else .done, pending := r.jump, fn := r.fn, tmps, params := r.params.toArray, assign := r.assign, body := r.body, defers := d }) ∧
      tmps.size = r.n ∧ RowsR β nx r.rows tmps
  | .defd => w.heap[(β id).b]? = some (.deferred (some []))

structure WR (w0 : World) (β : Beta) (h : AH) (nx : Nat) (w : World) : Prop where
  below : Below w0.heap.size w0 w
  nd : (h.map (·.1)).Nodup
  here : ∀ id B, h.get id = some B → id < nx ∧ w0.heap.size ≤ (β id).b ∧ BlockAt β nx w id B
  apart : ∀ i j Bi Bj, h.get i = some Bi → h.get j = some Bj → i ≠ j → (β i).b ≠ (β j).b

def concD (β : Beta) : ADef → Deferred
  | .fn f cap => { target := .fn (.func f) (concL β cap).toArray, args := #[] }
  | .coll id => { target := .collected (β id).b, args := #[] }
def ADef.lt (n : Nat) : ADef → Prop
  | .fn _ cap => ltL n cap
  | .coll id => id < n

structure SR (w0 : World) (β : Beta) (st : ASt) (tmps : Array Value) (defers : List Deferred) (w : World) : Prop where
  wr : WR w0 β st.heap st.nx w
  size : tmps.size = st.n
  rows : RowsR β st.nx st.rows tmps
  dlt : ∀ d ∈ st.defers, d.lt st.nx
  df : defers = st.defers.map (concD β)

/-! ### The heap as a list. -/
theorem AH.get_nil (id : Nat) : AH.get [] id = none := rfl
theorem AH.get_cons (e : Nat × AB) (r : AH) (id : Nat) : AH.get (e :: r) id = if e.1 = id then some e.2 else AH.get r id := by
  show (match Nat.beq e.1 id with | true => some e.2 | false => AH.get r id) = _
  by_cases h : e.1 = id
  · simp [h]
  · have : Nat.beq e.1 id = false := nbeq_ne h
    simp [h, this]
theorem AH.get_mem {h : AH} {id : Nat} {B : AB} (hg : h.get id = some B) : (id, B) ∈ h := by
  induction h with
  | nil => cases hg
  | cons e r ih =>
    rw [AH.get_cons] at hg
    by_cases he : e.1 = id
    · simp [he] at hg; subst he; subst hg; simp
    · simp [he] at hg; exact List.mem_cons_of_mem _ (ih hg)
theorem AH.get_of_mem {h : AH} (nd : (h.map (·.1)).Nodup) {id : Nat} {B : AB} (hm : (id, B) ∈ h) : h.get id = some B := by
  induction h with
  | nil => cases hm
  | cons e r ih =>
    simp only [List.map_cons, List.nodup_cons] at nd
    rw [AH.get_cons]
    rcases List.mem_cons.1 hm with he | hm
    · rw [← he]; simp
    · have : e.1 ≠ id := fun h => nd.1 (h ▸ List.mem_map_of_mem (f := (·.1)) hm)
      rw [if_neg this]; exact ih nd.2 hm
theorem AH.put_cons (e : Nat × AB) (r : AH) (id : Nat) (b : AB) : AH.put (e :: r) id b = if e.1 = id then (e.1, b) :: r else e :: AH.put r id b := by
  show (match Nat.beq e.1 id with | true => (e.1, b) :: r | false => e :: AH.put r id b) = _
  by_cases h : e.1 = id
  · simp [h]
  · have : Nat.beq e.1 id = false := nbeq_ne h
    simp [h, this]
theorem AH.put_keys (h : AH) (id : Nat) (b : AB) : (h.put id b).map (·.1) = h.map (·.1) := by
  induction h with
  | nil => rfl
  | cons e r ih => rw [AH.put_cons]; split <;> simp_all
theorem AH.get_put {h : AH} {id j : Nat} {b B : AB} (hg : h.get id = some B) : (h.put id b).get j = if j = id then some b else h.get j := by
  induction h with
  | nil => cases hg
  | cons e r ih =>
    rw [AH.get_cons] at hg
    rw [AH.put_cons]
    by_cases he : e.1 = id
    · rw [if_pos he, AH.get_cons, AH.get_cons]
      by_cases hj : e.1 = j
      · simp [hj, ← he]
      · have : ¬ j = id := fun h => hj (he.trans h.symm)
        simp [hj, this]
    · rw [if_neg he] at hg
      rw [if_neg he, AH.get_cons, AH.get_cons, ih hg]
      by_cases hj : e.1 = j
      · have : ¬ j = id := fun h => he (hj.trans h)
        simp [hj, this]
      · simp [hj]
theorem AH.del_cons (e : Nat × AB) (r : AH) (id : Nat) : AH.del (e :: r) id = if e.1 = id then r else e :: AH.del r id := by
  show (match Nat.beq e.1 id with | true => r | false => e :: AH.del r id) = _
  by_cases h : e.1 = id
  · simp [h]
  · have : Nat.beq e.1 id = false := nbeq_ne h
    simp [h, this]
theorem AH.del_sub (h : AH) (id : Nat) : (h.del id).Sublist h := by
  induction h with
  | nil => exact .slnil
  | cons e r ih => rw [AH.del_cons]; split
                   · exact List.sublist_cons_self _ _
                   · exact ih.cons_cons _
theorem AH.del_not {h : AH} (nd : (h.map (·.1)).Nodup) (id : Nat) : ∀ B, (id, B) ∉ h.del id := by
  induction h with
  | nil => intro B hm; cases hm
  | cons e r ih =>
    simp only [List.map_cons, List.nodup_cons] at nd
    intro B hm
    rw [AH.del_cons] at hm
    split at hm
    · rename_i he; exact nd.1 (he ▸ List.mem_map_of_mem (f := (·.1)) hm)
    · rename_i he
      rcases List.mem_cons.1 hm with h | h
      · exact he (by rw [← h])
      · exact ih nd.2 B h

/-- Fewer blocks are known as well. -/
theorem WR.sub {w0 : World} {β : Beta} {h h' : AH} {nx : Nat} {w : World} (H : WR w0 β h nx w) (hs : h'.Sublist h) : WR w0 β h' nx w := by
  have nd' : (h'.map (·.1)).Nodup := H.nd.sublist (hs.map _)
  have up : ∀ id B, h'.get id = some B → h.get id = some B := fun id B hg => AH.get_of_mem H.nd (hs.subset (AH.get_mem hg))
  exact ⟨H.below, nd', fun id B hg => H.here id B (up id B hg), fun i j Bi Bj hi hj => H.apart i j Bi Bj (up _ _ hi) (up _ _ hj)⟩
end Go.Abs
