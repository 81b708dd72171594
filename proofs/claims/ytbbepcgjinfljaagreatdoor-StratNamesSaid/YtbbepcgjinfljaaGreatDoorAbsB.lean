/- The abstract run of code: regions, loops, calls, what is deferred, and rounds of a range over a function. -/
import Derived.Test.YtbbepcgjinfljaaGreatDoorAbsA
namespace Go.Abs

mutual
def AV.ids : AV → List Nat
  | .ptr id _ => [id]
  | .slice id _ _ _ => [id]
  | .sliceE id _ _ _ => [id]
  | .map id => [id]
  | .func _ a b => AV.idsL a ++ AV.idsL b
  | .yield id => [id]
  | .iface _ v => AV.ids v
  | .agg cs => AV.idsL cs
  | .tuple vs => AV.idsL vs
  | .bool _ => []
  | .int _ _ => []
  | .nilptr => []
  | .nilslice => []
  | .nilmap => []
  | .nilfunc => []
  | .niliface => []
def AV.idsL : List AV → List Nat
  | [] => []
  | a :: r => AV.ids a ++ AV.idsL r
end

/-- Names in a flat value, or in flat parts of it: most values have none. -/
noncomputable def idsC (l : List AV) : List Nat := lrec [] (fun a _ r => match a with
  | .bool _ => r
  | .int _ _ => r
  | a => appR a.ids r) l

def AB.ids : AB → List Nat
  | .cells l => AV.idsL l
  | .iter m _ _ _ => [m]
  | _ => []

/-- Drop the blocks from a number on, but for those that some names lead to. -/
noncomputable def keepers (h : AH) (nx0 : Nat) (n : Nat) : List Nat → List Nat → List Nat :=
  nrec (fun _ acc => acc) (fun _ ih todo acc => match todo with
    | [] => acc
    | i :: r => match Nat.blt i nx0 || memN i acc with
      | true => ih r acc
      | false => match h.get i with
        | some b => ih (appR b.ids r) (i :: acc)
        | none => ih r acc) n

noncomputable def AH.drop (h : AH) (nx0 : Nat) (keep : List Nat) : AH :=
  lrec [] (fun e t r => match Nat.blt e.1 nx0 with
    | true => e :: t
    | false => match memN e.1 keep with
      | true => e :: r
      | false => r) h

noncomputable def goL {α β : Type} (f : α → Option (List β)) (l : List α) : Option (List β) :=
  lrec (some []) (fun a t r => match f a with
    | none => none
    | some x => match t with
      | [] => some x
      | _ :: _ => match r with
        | none => none
        | some y => some (appR x y)) l

/-- Forgetting: slots that a mask names, and the blocks from a number on; and which entry an iterator came to last. -/
noncomputable def maskR (r : List OV) : List Bool → List OV :=
  lrec (fun _ => []) (fun v t ih m => match m with
    | [] => v :: t
    | b :: bs => (match b with
      | true => none
      | false => v) :: ih bs) r
noncomputable def forgetT (rows : List (List OV)) : List (List Bool) → List (List OV) :=
  lrec (fun _ => []) (fun r t ih m => match m with
    | [] => r :: t
    | b :: bs => maskR r b :: ih bs) rows

noncomputable def AH.blur (h : AH) (nx0 : Nat) : AH :=
  lrec [] (fun e t r => match Nat.blt e.1 nx0 with
    | true => (match e.2 with
      | .iter m n s _ => (e.1, .iter m n s none)
      | b => (e.1, b)) :: t
    | false => r) h

noncomputable def ASt.blur (st : ASt) (f : Option (List (List Bool))) (nx0 : Nat) : ASt :=
  match f with
  | none => st
  | some l => { st with rows := forgetT st.rows l, heap := st.heap.blur nx0 }

/-! Are two the same? Where it is not told, they are taken as two. -/
noncomputable def eqL {α : Type} (f : α → α → Bool) (l : List α) : List α → Bool :=
  lrec (fun m => match m with
    | [] => true
    | _ :: _ => false) (fun a _ ih m => match m with
    | [] => false
    | b :: s => match f a b with
      | true => ih s
      | false => false) l
noncomputable def beq0 (a b : AV) : Bool :=
  AV.casesOn (motive_1 := fun _ => AV → Bool) a
    (fun x b => match b with
      | .bool y => x == y
      | _ => false)
    (fun j x b => match b with
      | .int k y => kindEq j k && ieq x y
      | _ => false)
    (fun x y b => match b with
      | .ptr z w => Nat.beq x z && Nat.beq y w
      | _ => false)
    (fun b => match b with
      | .nilptr => true
      | _ => false)
    (fun x y z w b => match b with
      | .slice x' y' z' w' => Nat.beq x x' && Nat.beq y y' && Nat.beq z z' && Nat.beq w w'
      | _ => false)
    (fun _ _ _ _ _ => false)
    (fun b => match b with
      | .nilslice => true
      | _ => false)
    (fun x b => match b with
      | .map y => Nat.beq x y
      | _ => false)
    (fun b => match b with
      | .nilmap => true
      | _ => false)
    (fun _ _ _ _ => false)
    (fun x b => match b with
      | .yield y => Nat.beq x y
      | _ => false)
    (fun b => match b with
      | .nilfunc => true
      | _ => false)
    (fun _ _ _ => false)
    (fun b => match b with
      | .niliface => true
      | _ => false)
    (fun _ _ => false)
    (fun _ _ => false) b
noncomputable def beq1 (a b : AV) : Bool :=
  match a with
  | .agg l => match b with
    | .agg m => eqL beq0 l m
    | _ => false
  | .tuple l => match b with
    | .tuple m => eqL beq0 l m
    | _ => false
  | .func f l m => match b with
    | .func g l' m' => Nat.beq f g && eqL beq0 l l' && eqL beq0 m m'
    | _ => false
  | a => beq0 a b
noncomputable def beqV (a b : AV) : Bool :=
  match a with
  | .iface t v => match b with
    | .iface u w => Nat.beq t u && beq1 v w
    | _ => false
  | a => beq1 a b
noncomputable def beqOV (a b : OV) : Bool :=
  match a with
  | none => match b with
    | none => true
    | some _ => false
  | some v => match b with
    | none => false
    | some w => beqV v w
def beqON (a b : Option Nat) : Bool :=
  match a with
  | none => match b with
    | none => true
    | some _ => false
  | some v => match b with
    | none => false
    | some w => Nat.beq v w
noncomputable def beqAB (a b : AB) : Bool :=
  match a with
  | .cells l => match b with
    | .cells m => eqL beqV l m
    | _ => false
  | .map l => match b with
    | .map m => eqL (fun x y => beqV x.1 y.1 && beqV x.2 y.2) l m
    | _ => false
  | .iter m n s c => match b with
    | .iter m' n' s' c' => eqL Nat.beq s s' && Nat.beq m m' && Nat.beq n n' && beqON c c'
    | _ => false
  | .defd => match b with
    | .defd => true
    | _ => false
  | .loop _ => false
noncomputable def beqAH (a b : AH) : Bool := eqL (fun x y => Nat.beq x.1 y.1 && beqAB x.2 y.2) a b
noncomputable def beqD (a b : List ADef) : Bool := eqL (fun x y => match x with
  | .fn f l => match y with
    | .fn g m => Nat.beq f g && eqL beqV l m
    | .coll _ => false
  | .coll i => match y with
    | .fn _ _ => false
    | .coll j => Nat.beq i j) a b
noncomputable def beqSt (a b : ASt) : Bool := beqAH a.heap b.heap && Nat.beq a.nx b.nx && Nat.beq a.n b.n && eqL (eqL beqOV) a.rows b.rows && beqD a.defers b.defers

/-- Each once. -/
noncomputable def onceBy {α : Type} (same : α → α → Bool) (l : List α) : List α → List α :=
  lrec (fun acc => acc) (fun a _ ih acc => match anyR (fun b => same b a) acc with
    | true => ih acc
    | false => ih (a :: acc)) l

noncomputable def beqEx (a b : Ex) : Bool :=
  match a with
  | .normal => match b with
    | .normal => true
    | _ => false
  | .exit i => match b with
    | .exit j => Nat.beq i j
    | _ => false
  | .ret => match b with
    | .ret => true
    | _ => false
  | .panic v => match b with
    | .panic w => beqV v w
    | _ => false

abbrev OutC := Ex × ASt
abbrev OutF := Res × AH × Nat
abbrev CallT := FuncId → List AV → AH → Nat → Option (List OutF)
abbrev CodeT := Code → ASt → Option (List OutC)

noncomputable def normals (l : List OutC) : List ASt := lrec [] (fun x _ r => match x.1 with
  | .normal => x.2 :: r
  | _ => r) l
noncomputable def others (l : List OutC) : List OutC := lrec [] (fun x _ r => match x.1 with
  | .normal => r
  | _ => x :: r) l

/-- A loop: from some states at its head. -/
noncomputable def loopA (body : ASt → Option (List OutC)) (norm : ASt → ASt) (dedupe : Bool) (n : Nat) : List ASt → Option (List OutC) :=
  nrec (fun front => match front with
    | [] => some []
    | _ :: _ => none) (fun _ ih front => match front with
    | [] => some []
    | _ :: _ => match goL body front with
      | none => none
      | some outs => match dedupe with
        | false => match ih (mapR norm (normals outs)) with
          | none => none
          | some more => some (appR (others outs) more)
        | true => match ih (onceBy beqSt (mapR norm (normals outs)) []) with
          | none => none
          | some more => some (onceBy (fun x y => beqEx x.1 y.1 && beqSt x.2 y.2) (others outs) more)) n

structure Ctx where
  fn : FuncId
  round : Bool

/-- Behind a call. -/
noncomputable def behindC (go : ASt → Option (List OutC)) (st : ASt) (dst : Option Tmp) (outs : Option (List OutF)) : Option (List OutC) :=
  match outs with
  | none => none
  | some outs => goL (fun x => match x.1 with
    | .ret v => go ({ st with heap := x.2.1, nx := x.2.2 }.put dst (some v))
    | .panic v => some [(.panic v, { st with heap := x.2.1, nx := x.2.2 })]) outs

noncomputable def behindS (call yield : CallT) (go : ASt → Option (List OutC)) (dst : Option Tmp) (s : Step) : Option (List OutC) :=
  Step.casesOn (motive := fun _ => CallT → CallT → (ASt → Option (List OutC)) → Option Tmp → Option (List OutC)) s
    (fun v st _ _ go dst => go (st.put dst v))
    (fun f args st call _ go dst => behindC go st dst (call f args st.heap st.nx))
    (fun l args st _ yield go dst => behindC go st dst (yield l args st.heap st.nx))
    (fun d st _ _ go dst => go ({ st with defers := d :: st.defers }.put dst (some undefA)))
    (fun v st _ _ _ _ => some [(.panic v, st)]) call yield go dst

/-- Is an operation carried out? none: it is not known. -/
noncomputable def wantA (ops : List Oper) (o : Oper) (st : ASt) : Option Bool :=
  match o.guard with
  | none => some true
  | some g => match getR ops g.1 with
    | some p => match p.dst with
      | some d => match st.get d with
        | some v => match v with
          | .bool c => some (c == g.2)
          | _ => some false
        | none => none
      | none => none
    | none => none

/-- As goL; a single one is taken straight on. -/
noncomputable def goS (l : List Step) : (Step → Option (List OutC)) → Option (List OutC) :=
  List.rec (motive := fun _ => (Step → Option (List OutC)) → Option (List OutC)) (fun f => goL f [])
    (fun s t _ f => List.rec (motive := fun _ => Option (List OutC)) (f s) (fun t1 ts _ => goL f (s :: t1 :: ts)) t) l
theorem goL_one {α β : Type} (f : α → Option (List β)) (s : α) : goL f [s] = f s := by
  show (match f s with
    | none => none
    | some x => some x) = f s
  cases f s <;> rfl
theorem goS_eq (f : Step → Option (List OutC)) (l : List Step) : goS l f = goL f l := by
  match l with
  | [] => rfl
  | [s] =>
    have h1 : goS [s] f = f s := rfl
    rw [h1, goL_one]
  | s :: t1 :: ts => rfl
noncomputable def execA (T : Tab) (call yield : CallT) (o : Oper) (go : ASt → Option (List OutC)) (st : ASt) : Option (List OutC) :=
  match opR o.op T st with
  | none => none
  | some steps => goS steps (behindS call yield go o.dst)
noncomputable def operA (T : Tab) (call yield : CallT) (ops : List Oper) (o : Oper) (go : ASt → Option (List OutC)) (st : ASt) : Option (List OutC) :=
  match o.guard with
  | none => execA T call yield o go st
  | some _ => match wantA ops o st with
    | none => none
    | some false => go (st.put o.dst (some undefA))
    | some true => execA T call yield o go st
theorem operA_eq (T : Tab) (call yield : CallT) (ops : List Oper) (o : Oper) (go : ASt → Option (List OutC)) (st : ASt) : operA T call yield ops o go st = match wantA ops o st with
    | none => none
    | some false => go (st.put o.dst (some undefA))
    | some true => match opA T o.op st with
      | none => none
      | some steps => goL (behindS call yield go o.dst) steps := by
  have he : execA T call yield o go st = match opA T o.op st with
      | none => none
      | some steps => goL (behindS call yield go o.dst) steps := by
    unfold execA
    rw [opR_eq]
    cases opA T o.op st with
    | none => rfl
    | some steps => exact goS_eq _ _
  unfold operA
  cases hg : o.guard with
  | none =>
    have hw : wantA ops o st = some true := by unfold wantA; rw [hg]
    rw [hw]; exact he
  | some g => simp only [he]

/-- A region's operations, one after the other. -/
noncomputable def opsA (T : Tab) (call yield : CallT) (ops : List Oper) (l : List Oper) : ASt → Option (List OutC) :=
  lrec (fun st => some [(.normal, st)]) (fun o _ ih st => operA T call yield ops o ih st) l

/-! Regions that draw their order: what may come in any order changes no memory. -/

/-- A call of a function by its name, without arguments. -/
def stillCall (c : Call) : Bool :=
  match c.callee with
  | .value (.func _) => match c.args.toList with
    | [] => true
    | _ :: _ => false
  | _ => false
/-- An operation that reads or reckons alone. -/
def pureOp (o : Op) : Bool :=
  match o with
  | .move _ => true
  | .assign _ => true
  | .pick _ _ _ => true
  | .load _ _ => true
  | .nilCheck _ => true
  | .binOp .. => true
  | .unOp .. => true
  | .fieldAddr .. => true
  | .indexAddr .. => true
  | .index .. => true
  | .lookup .. => true
  | .extract _ _ => true
  | .slice .. => true
  | .call c => stillCall c
  | _ => false
/-- One that reads no memory. -/
def bareOp (o : Op) : Bool :=
  match o with
  | .move _ => true
  | .assign _ => true
  | .pick _ _ _ => true
  | .binOp .. => true
  | .extract _ _ => true
  | _ => false
def firm (e : Edge) : Bool :=
  match e.ground with
  | .textOnly _ => false
  | .gcOnly _ => false
  | _ => true
noncomputable def depsOf (o : Oper) : List Nat := lrec [] (fun e _ r => match firm e with
  | true => e.on :: r
  | false => r) o.after.toList
def tmpOf (o : Operand) : List Nat := match o with
  | .tmp t => [t]
  | _ => []
noncomputable def tmpsOf (l : List Operand) : List Nat := lrec [] (fun o _ r => appR (tmpOf o) r) l
def readsOf (o : Op) : List Operand :=
  match o with
  | .move x => [x]
  | .assign x => [x]
  | .pick a b c => [a, b, c]
  | .load _ x => [x]
  | .nilCheck x => [x]
  | .binOp _ _ x y _ => [x, y]
  | .unOp _ _ x => [x]
  | .fieldAddr _ x _ => [x]
  | .indexAddr _ x y => [x, y]
  | .index _ x y => [x, y]
  | .lookup _ x y _ => [x, y]
  | .extract x _ => [x]
  | .slice _ x a b c => x :: (a.toList ++ b.toList ++ c.toList)
  | .mapUpdate _ a b c => [a, b, c]
  | .call c => match c.callee with
    | .value f => f :: c.args.toList
    | _ => c.args.toList
  | _ => []
/-- All that come ahead of one, as the edges lead. -/
noncomputable def ahead (ops : List Oper) (n : Nat) : List Nat → List Nat → List Nat :=
  nrec (fun _ acc => acc) (fun _ ih todo acc => match todo with
    | [] => acc
    | i :: r => match memN i acc with
      | true => ih r acc
      | false => match getR ops i with
        | some o => ih (appR (depsOf o) r) (i :: acc)
        | none => ih r acc) n
/-- Which operations write a slot. -/
noncomputable def writers (ops : List Oper) (t : Nat) : List Nat :=
  lrec (fun _ => []) (fun o _ ih i => match o.dst with
    | some d => match Nat.beq d t with
      | true => i :: ih (i + 1)
      | false => ih (i + 1)
    | none => ih (i + 1)) ops 0
noncomputable def slotsOK (ops : List Oper) : List Oper → Nat → Bool :=
  lrec (fun _ => true) (fun o _ ih i =>
    allR (fun t => allR (fun j => memN j (depsOf o) || (match getR ops j with
      | some p => memN i (depsOf p)
      | none => false)) (writers ops t)) (tmpsOf (readsOf o.op)) &&
    (match o.guard with
      | some g => memN g.1 (depsOf o)
      | none => true) &&
    allR (fun j => Nat.blt j i) (depsOf o) &&
    (match o.dst with
      | some d => allR (fun j => Nat.beq j i) (writers ops d)
      | none => true) && ih (i + 1))
/-- All but one change nothing; those ahead of it in the text are ahead of it, or need no memory (where it may not leave); those behind it in the text are behind it. -/
noncomputable def pureBut (c : Nat) (l : List Nat) (own : Bool) : List Oper → Nat → Bool :=
  lrec (fun _ => true) (fun o _ ih i => (match Nat.beq i c with
    | true => true
    | false => pureOp o.op && (match Nat.blt i c with
      | true => memN i l || (bareOp o.op && own)
      | false => memN c (depsOf o))) && ih (i + 1))
/-- The one that is not pure, if there is one. -/
noncomputable def loud (l : List Oper) : Nat → Option Nat :=
  lrec (fun _ => none) (fun o _ ih i => match pureOp o.op with
    | true => ih (i + 1)
    | false => some i) l
def leavesNot (o : Op) : Bool :=
  match o with
  | .mapUpdate .. => true
  | .call c => match c.callee with
    | .builtin .copy => true
    | _ => false
  | _ => false
noncomputable def drawOK (ops : List Oper) : Bool :=
  slotsOK ops ops 0 && match loud ops 0 with
    | none => true
    | some c => match getR ops c with
      | some o => pureBut c (ahead ops 100 (depsOf o) []) (leavesNot o.op) ops 0
      | none => false

/-- What a call makes that needs no memory that there is, and hands back none. -/
noncomputable def stillC (outs : Option (List OutF)) : OV :=
  match outs with
  | some [(.ret v, _, _)] => match v.ids with
    | [] => some v
    | _ :: _ => none
  | _ => none
noncomputable def stillS (call : CallT) (steps : Option (List Step)) : Option OV :=
  match steps with
  | some [.val v _] => some v
  | some [.enter f [] _] => match stillC (call f [] [] 0) with
    | some v => some (some v)
    | none => none
  | _ => none
/-- A pure operation. -/
noncomputable def pureA (T : Tab) (call : CallT) (ops : List Oper) (o : Oper) (st : ASt) : Option ASt :=
  match wantA ops o st with
  | none => none
  | some false => some (st.put o.dst (some undefA))
  | some true => match stillS call (opR o.op T st) with
    | some v => some (st.put o.dst v)
    | none => none
/-- A region that draws: in the order of the text. -/
noncomputable def drawA (T : Tab) (call yield : CallT) (ops : List Oper) (c : Nat) (l : List Oper) : Nat → ASt → Option (List OutC) :=
  lrec (fun _ st => some [(.normal, st)]) (fun o _ ih i st => match Nat.beq i c with
    | true => operA T call yield ops o (ih (i + 1)) st
    | false => match pureA T call ops o st with
      | none => none
      | some s => ih (i + 1) s) l

/-- Which operation of a deferred closure takes what is thrown, and whom it hands it to. -/
def catches (f : Func) (p q : Oper) : Option (FuncId × Tmp) :=
  match p.dst with
  | some t1 => match p.op with
    | .call c => match c.callee with
      | .builtin .recover => match c.args.toList with
        | [] => match q.op with
          | .call d => match d.callee with
            | .value (.func g) => match d.args.toList with
              | [.tmp a, .tmp b] => match Nat.beq a t1 && p.guard.isNone && q.guard.isNone && f.results.toList.isEmpty && Nat.blt t1 f.ntmps && Nat.blt 0 t1 with
                | true => some (g, b)
                | false => none
              | _ => none
            | _ => none
          | _ => none
        | _ :: _ => none
      | _ => none
    | _ => none
  | none => none
def catcher (f : Func) : Option (FuncId × Tmp) :=
  match f.body with
  | some (.region _ ops false) => match ops.toList with
    | [p, q] => catches f p q
    | _ => none
  | _ => none

noncomputable def resultsA (T : Tab) (st : ASt) (l : List ResultVar) : Option (List AV) :=
  lrec (some []) (fun x _ r => match r with
    | none => none
    | some l => match x with
      | .tmp t => match st.get t with
        | some v => some (v :: l)
        | none => none
      | .cell a t => match st.get a with
        | some (.ptr id off) => match T.ty t with
          | some i => match st.heap.load id off i with
            | some v => some (v :: l)
            | none => none
          | none => none
        | _ => none) l

def one (l : List AV) : AV := match l with
  | [v] => v
  | l => .tuple l

/-- The end of a call: what was deferred, and the results. -/
noncomputable def leaveA (T : Tab) (call : CallT) (f : Func) (ds : List ADef) : Option AV → ASt → Option (List OutF) :=
  lrec (fun p st => match p with
    | none => match resultsA T st f.results.toList with
      | some l => some [(.ret (one l), st.heap, st.nx)]
      | none => none
    | some v => some [(.panic v, st.heap, st.nx)]) (fun d _ ih p st => match d with
    | .coll id => match st.heap.get id with
      | some .defd => ih p { st with heap := st.heap.del id }
      | _ => none
    | .fn g cap => match T.fn g with
      | some gf => match catcher gf with
        | some (s, 0) => match cap with
          | [e] => match call s [match p with
              | some v => v
              | none => .niliface, e] st.heap st.nx with
            | some outs => goL (fun x => match x.1 with
              | .ret _ => ih none { st with heap := x.2.1, nx := x.2.2 }
              | .panic _ => none) outs
            | none => none
          | _ => none
        | _ => none
      | none => none) ds

/-- The number that a kept block gets. -/
noncomputable def renN (i : Nat) (K : List Nat) : Nat → Nat :=
  lrec (fun j => j) (fun a _ ih j => match Nat.beq a i with
    | true => j
    | false => ih (j + 1)) K
noncomputable def ren (nx0 : Nat) (K : List Nat) (i : Nat) : Nat :=
  match Nat.blt i nx0 with
  | true => i
  | false => renN i K nx0

mutual
def AV.ren (f : Nat → Nat) : AV → AV
  | .ptr id o => .ptr (f id) o
  | .slice id a b c => .slice (f id) a b c
  | .sliceE id a b c => .sliceE (f id) a b c
  | .map id => .map (f id)
  | .func g a b => .func g (AV.renL f a) (AV.renL f b)
  | .yield id => .yield (f id)
  | .iface t v => .iface t (AV.ren f v)
  | .agg cs => .agg (AV.renL f cs)
  | .tuple vs => .tuple (AV.renL f vs)
  | .bool b => .bool b
  | .int k n => .int k n
  | .nilptr => .nilptr
  | .nilslice => .nilslice
  | .nilmap => .nilmap
  | .nilfunc => .nilfunc
  | .niliface => .niliface
def AV.renL (f : Nat → Nat) : List AV → List AV
  | [] => []
  | a :: r => AV.ren f a :: AV.renL f r
end

noncomputable def inK (nx0 : Nat) (K : List Nat) (l : List Nat) : Bool := allR (fun i => Nat.blt i nx0 || memN i K) l

/-- Cells whose names are all known, with new names. -/
noncomputable def renC (nx0 : Nat) (K : List Nat) (l : List AV) : Option (List AV) :=
  lrec (some []) (fun a _ r => match r with
    | none => none
    | some m => match a with
      | .bool b => some (.bool b :: m)
      | .int k n => some (.int k n :: m)
      | a => match inK nx0 K a.ids with
        | true => some (a.ren (ren nx0 K) :: m)
        | false => none) l
noncomputable def renB (nx0 : Nat) (K : List Nat) (b : AB) : Option AB :=
  match b with
  | .cells l => match renC nx0 K l with
    | some l => some (.cells l)
    | none => none
  | .map es => some (.map es)
  | .iter m n s c => match Nat.blt m nx0 with
    | true => some (.iter m n s c)
    | false => none
  | .loop _ => none
  | .defd => some .defd
noncomputable def renH (nx0 : Nat) (K : List Nat) (h : AH) : Option AH :=
  lrec (some []) (fun e _ r => match r with
    | none => none
    | some h => match Nat.blt e.1 nx0 || memN e.1 K with
      | true => match renB nx0 K e.2 with
        | some b => some ((ren nx0 K e.1, b) :: h)
        | none => none
      | false => none) h

def Res.v : Res → AV
  | .ret v => v
  | .panic v => v
def Res.ren (f : Nat → Nat) : Res → Res
  | .ret v => .ret (v.ren f)
  | .panic v => .panic (v.ren f)

noncomputable def gcK (T : Tab) (f : FuncId) (nx0 : Nat) (x : OutF) (K : List Nat) : Option OutF :=
  match T.canon f with
  | true => match inK nx0 K x.1.v.ids with
    | true => match renH nx0 K (x.2.1.drop nx0 K) with
      | some h => some (x.1.ren (ren nx0 K), h, nx0 + lenR K)
      | none => none
    | false => none
  | false => some (x.1, x.2.1.drop nx0 K, x.2.2)
noncomputable def gcA (T : Tab) (f : FuncId) (nx0 : Nat) (x : OutF) : Option OutF :=
  match T.gc f with
  | true => gcK T f nx0 x (keepers x.2.1 nx0 200 x.1.v.ids [])
  | false => some x

noncomputable def gcL (T : Tab) (f : FuncId) (nx0 : Nat) (l : List OutF) : Option (List OutF) :=
  lrec (some []) (fun x _ r => match r with
    | none => none
    | some l => match gcA T f nx0 x with
      | some y => some (y :: l)
      | none => none) l

noncomputable def beqR (a b : Res) : Bool :=
  match a with
  | .ret v => match b with
    | .ret w => beqV v w
    | .panic _ => false
  | .panic v => match b with
    | .ret _ => false
    | .panic w => beqV v w
noncomputable def beqF (x y : OutF) : Bool := Nat.beq x.2.2 y.2.2 && beqR x.1 y.1 && beqAH x.2.1 y.2.1

/-- What stands behind a range over a function. -/
noncomputable def behindR (d l : Nat) (st : ASt) (x : OutF) : Option (List OutC) :=
  match x.1 with
  | .panic v => some [(.panic v, { st with heap := x.2.1, nx := x.2.2, defers := .coll d :: st.defers })]
  | .ret _ => match x.2.1.get l with
    | some (.loop r) => match r.busy with
      | true => none
      | false => match r.jump with
        | none => some [(.normal, { st with heap := x.2.1.del l, nx := x.2.2, defers := .coll d :: st.defers })]
        | some .ret => some [(.ret, { st with heap := x.2.1.del l, nx := x.2.2, defers := .coll d :: st.defers })]
        | some (.exit i) => some [(.exit i, { st with heap := x.2.1.del l, nx := x.2.2, defers := .coll d :: st.defers })]
        | _ => none
    | _ => none

noncomputable def rangeA (x : Ctx) (call : CallT) (f : OV) (params : List Nat) (assign body : Code) (st : ASt) : Option (List OutC) :=
  match f with
  | some (.func f first cap) => match x.round with
    | true => none
    | false => match call f (appR first (.yield (st.nx + 1) :: cap))
        ((st.nx + 1, .loop { params := params, assign := assign, body := body, fn := x.fn, n := st.n, rows := st.rows, jump := none, busy := false }) :: (st.nx, .defd) :: st.heap) (st.nx + 2) with
      | none => none
      | some outs => goL (behindR st.nx (st.nx + 1) st) outs
  | _ => none

noncomputable def seqA (b : ASt → Option (List OutC)) (r : Option (List OutC)) : Option (List OutC) :=
  match r with
  | none => none
  | some [] => some []
  | some [(.normal, s)] => b s
  | some outs => match goL b (normals outs) with
    | none => none
    | some more => some (appR (others outs) more)

def leftBlock (id : Nat) (x : OutC) : OutC :=
  match x.1 with
  | .exit i => match Nat.beq i id with
    | true => (.normal, x.2)
    | false => x
  | _ => x
noncomputable def blockA (id : Nat) (r : Option (List OutC)) : Option (List OutC) :=
  match r with
  | none => none
  | some outs => some (mapR (leftBlock id) outs)

noncomputable def condA (go : CodeT) (t : OV) (a b : Code) (st : ASt) : Option (List OutC) :=
  match t with
  | some (.bool c) => match c with
    | true => go a st
    | false => go b st
  | _ => none

noncomputable def loopS (T : Tab) (x : Ctx) (body : ASt → Option (List OutC)) (st : ASt) : Option (List OutC) :=
  loopA body (fun s => s.blur (T.forget x.fn) st.nx) (T.forget x.fn).isSome 400 [st]

def isDefer (o : Oper) : Bool := match o.op with
  | .defer _ => true
  | _ => false
noncomputable def regionA (T : Tab) (x : Ctx) (call yield : CallT) (ops : List Oper) (draw : Bool) (st : ASt) : Option (List OutC) :=
  match x.round && anyR isDefer ops with
  | true => none
  | false => match draw with
  | false => opsA T call yield ops ops st
  | true => match drawOK ops with
    | true => drawA T call yield ops (match loud ops 0 with
      | some c => c
      | none => lenR ops) ops 0 st
    | false => none

noncomputable def codeR (c : Code) : Tab → Ctx → CallT → CallT → CodeT → ASt → Option (List OutC) :=
  Code.casesOn (motive := fun _ => Tab → Ctx → CallT → CallT → CodeT → ASt → Option (List OutC)) c
    (fun _ _ _ _ _ st => some [(.normal, st)])
    (fun _ ops draw T x call yield _ st => regionA T x call yield ops.toList draw st)
    (fun a b _ _ _ _ go st => seqA (go b) (go a st))
    (fun t a b _ _ _ _ go st => condA go (st.ev t) a b st)
    (fun id c _ _ _ _ go st => blockA id (go c st))
    (fun c T x _ _ go st => loopS T x (go c) st)
    (fun f params assign body _ x call _ _ st => rangeA x call (st.ev f) params.toList assign body st)
    (fun id _ _ _ _ _ st => some [(.exit id, st)])
    (fun c _ _ _ _ go st => go c st)
    (fun _ _ _ _ _ _ st => some [(.normal, st)])
    (fun _ _ _ _ _ _ _ => none)
    (fun _ _ _ _ _ st => some [(.ret, st)])
    (fun _ _ _ _ _ _ _ => none)
noncomputable def codeStep (T : Tab) (x : Ctx) (call yield : CallT) (go : CodeT) (c : Code) (st : ASt) : Option (List OutC) := codeR c T x call yield go st

/-- Code. -/
noncomputable def codeA (T : Tab) (x : Ctx) (call yield : CallT) (n : Nat) : CodeT :=
  nrec (fun _ _ => none) (fun _ ih c st => codeStep T x call yield ih c st) n

noncomputable def rowsOf (n : Nat) : List (List OV) := repR (Nat.div n 8 + 1) (repR 8 (some undefA))
noncomputable def setArgs (rows : List (List OV)) (ps : List Nat) (l : List AV) : List (List OV) :=
  lrec (fun _ rows => rows) (fun p _ ih l rows => match l with
    | [] => rows
    | a :: r => ih r (rset rows p (some a))) ps l rows
noncomputable def setFrom (rows : List (List OV)) (l : List AV) : List (List OV) :=
  lrec (fun _ rows => rows) (fun a _ ih i rows => ih (i + 1) (rset rows i (some a))) l 0 rows

noncomputable def exitF (T : Tab) (call : CallT) (fn : Func) (x : OutC) : Option (List OutF) :=
  match x.1 with
  | .normal => leaveA T call fn x.2.defers none x.2
  | .ret => leaveA T call fn x.2.defers none x.2
  | .panic v => leaveA T call fn x.2.defers (some v) x.2
  | .exit _ => none
noncomputable def closeF (T : Tab) (f : FuncId) (nx : Nat) (r : Option (List OutF)) : Option (List OutF) :=
  match r with
  | none => none
  | some rs => match gcL T f nx rs with
    | none => none
    | some rs => match T.canon f with
      | true => some (onceBy beqF rs [])
      | false => some rs

/-- A function's call. -/
noncomputable def funcA (T : Tab) (depth : Nat) (call yield : CallT) (f : FuncId) (args : List AV) (h : AH) (nx : Nat) : Option (List OutF) :=
  match T.fn f with
  | none => none
  | some fn => match fn.body with
    | none => none
    | some c => match Nat.ble (lenR args) fn.ntmps with
      | false => none
      | true => match codeA T ⟨f, false⟩ call yield depth c { n := fn.ntmps, rows := setFrom (rowsOf fn.ntmps) args, defers := [], heap := h, nx := nx } with
        | none => none
        | some outs => closeF T f nx (goL (exitF T call fn) outs)

noncomputable def endR (l : Nat) (jump : Option Code) (v : Bool) (st : ASt) : Option (List OutF) :=
  match st.heap.get l with
  | some (.loop r) => some [(.ret (.bool v), st.heap.put l (.loop { r with jump := jump, busy := false }), st.nx)]
  | _ => none
noncomputable def endRound (l : Nat) (x : OutC) : Option (List OutF) :=
  match x.2.defers with
  | [] => match x.1 with
    | .normal => endR l none true x.2
    | .ret => endR l (some .ret) false x.2
    | .exit i => endR l (some (.exit i)) false x.2
    | .panic _ => none
  | _ :: _ => none
noncomputable def roundC (T : Tab) (depth : Nat) (call yield : CallT) (l : Nat) (r : LoopR) (st : ASt) : Option (List OutF) :=
  match st.heap.get l with
  | some (.loop s) => match s.jump with
    | none => match s.busy with
      | false => match codeA T ⟨r.fn, true⟩ call yield depth r.body { st with heap := st.heap.put l (.loop { s with busy := true }) } with
        | none => none
        | some outs => goL (endRound l) outs
      | true => none
    | some _ => none
  | _ => none
noncomputable def roundB (T : Tab) (depth : Nat) (call yield : CallT) (l : Nat) (r : LoopR) (o : Option (List OutC)) : Option (List OutF) :=
  match o with
  | some [(.normal, st)] => roundC T depth call yield l r st
  | _ => none
/-- A round of a range over a function. -/
noncomputable def roundA (T : Tab) (depth : Nat) (call yield : CallT) (l : Nat) (args : List AV) (h : AH) (nx : Nat) : Option (List OutF) :=
  match h.get l with
  | some (.loop r) => match Nat.beq (lenR args) (lenR r.params) && allR (fun p => Nat.blt p r.n) r.params with
    | true => roundB T depth call yield l r (codeA T ⟨r.fn, true⟩ call yield depth r.assign { n := r.n, rows := setArgs r.rows r.params args, defers := [], heap := h, nx := nx })
    | false => none
  | _ => none

/-- Calls of functions (false), and of a loop's body (true). -/
noncomputable def callA (T : Tab) (depth : Nat) (n : Nat) : Bool → CallT :=
  nrec (fun _ _ _ _ _ => none) (fun _ ih b f args h nx => match b with
    | false => funcA T depth (ih false) (ih true) f args h nx
    | true => roundA T depth (ih false) (ih true) f args h nx) n
end Go.Abs
