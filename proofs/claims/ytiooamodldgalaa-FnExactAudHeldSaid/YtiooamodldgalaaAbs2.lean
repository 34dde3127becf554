/-
Plain definitions: the evaluator over regions, code and functions, with continuations; no proofs but unfoldings.
-/
import Derived.Test.YtiooamodldgalaaAbs1
namespace Go.Proofs.Ytiooamodldgalaa.Abs
open Go

def fresh (n : Nat) (st : St) : Bool :=
  !(st.tm.any fun v => v.ids.any (Nat.beq n)) && st.ob.all fun p => !(Nat.beq p.1 n) && !(p.2.ids.any (Nat.beq n))

def St.put (st : St) (dst : Option Tmp) (v : AV) : St :=
  match dst with
  | some d => { st with tm := st.tm.set d v }
  | none => st

def replO (s : Objs) : Objs → Objs
  | [] => []
  | (k, a) :: r => (k, match lku s k with | some b => b | none => a) :: replO s r

def deleO (ds : List Nat) : Objs → Objs
  | [] => []
  | (k, a) :: r => bif ds.any (Nat.beq k) then deleO ds r else (k, a) :: deleO ds r

def St.app (st : St) (dst : Option Tmp) (u : Upd) : St :=
  ({ st with ob := u.new ++ replO u.set (deleO u.del st.ob) } : St).put dst u.val

/-! ### Forgetting -/
def LV.drop (p : Nat → Bool) (x : LV) : LV := bif x.ids.any p then .undef else x
def CV.drop (p : Nat → Bool) : CV → CV
  | .leaf x => .leaf (x.drop p)
  | .agg l => .agg (l.map (LV.drop p))
def AV.drop (p : Nat → Bool) : AV → AV
  | .c x => .c (x.drop p)
  | .tup l => .tup (l.map (CV.drop p))
def AO.drop (p : Nat → Bool) : AO → AO
  | .cells t vs => .cells t (vs.map (LV.drop p))
  | a => a
def dropO (p : Nat → Bool) : Objs → Objs
  | [] => []
  | (k, a) :: r => bif p k then dropO p r else (k, a.drop p) :: dropO p r
def St.drop (p : Nat → Bool) (st : St) : St := ⟨st.tm.map (AV.drop p), dropO p st.ob⟩

def creates : Op → Bool
  | .alloc _ | .box _ _ | .buildSlice _ _ _ | .makeSlice _ _ _ | .makeMap _ _ | .call _ => true
  | _ => false
def newDsts (ops : List Oper) : List Nat := ops.flatMap fun o => bif creates o.op then (match o.dst with | some d => [d + 1] | none => []) else []
def St.clear (ops : List Oper) (st : St) : St :=
  match newDsts ops with
  | [] => st
  | ds => st.drop fun o => ds.any (Nat.beq (o / 64))

/-! ### Renaming at heads: parameters' objects keep their numbers -/
def canon (np : Nat) (lk : Nat → Option AO) (roots : List Nat) : List Nat :=
  (reach lk (List.range np ++ roots)).filter fun o => (lk o).isSome && !(Nat.blt o np)
def rn (np : Nat) (L : List Nat) (o : Nat) : Nat := bif Nat.blt o np then o else np + idx L o
def dead (lk : Nat → Option AO) (o : Nat) : Bool := !((lk o).isSome)

def keepT (live : List Nat) : Nat → List AV → List AV
  | _, [] => []
  | i, v :: r => (bif live.any (Nat.beq i) then v else .undef) :: keepT live (i + 1) r

def pick (lk : Nat → Option AO) (f : Nat → AO → Nat × AO) : List Nat → Objs
  | [] => []
  | o :: r => match lk o with
    | some a => f o a :: pick lk f r
    | none => pick lk f r

def relabel (np : Nat) (lk : Nat → Option AO) (L : List Nat) : Objs :=
  pick lk (fun o a => (rn np L o, (a.drop (dead lk)).ren (rn np L))) (List.range np ++ L)

def St.norm (np : Nat) (live : List Nat) (st : St) : St :=
  let tm := (keepT live 0 st.tm).map (AV.drop (dead (lku st.ob)))
  let L := canon np (lku st.ob) (tm.flatMap AV.ids)
  ⟨tm.map (AV.ren (rn np L)), relabel np (lku st.ob) L⟩

/-! ### Nil slices that are taken for owned ones -/
def LV.isNils : LV → Bool
  | .nils => true
  | _ => false
def nilAt (l : List LV) (j : Nat) : Bool :=
  match l[j]? with
  | some x => x.isNils
  | none => false
def RT.plain : RT → Bool
  | .list _ a => a.flat
  | t => t.flat
def liftId (i : Nat) : Nat := 64 * 2000000 + i

def liftAV (n j : Nat) : AV → Option AV
  | .c (.leaf x) => bif Nat.beq j 0 && x.isNils then some (.lf (.own n)) else none
  | .c (.agg l) => bif nilAt l j then some (.ag (l.set j (.own n))) else none
  | _ => none

def St.lift1 (st : St) (i : Nat) (s : Lift) : St :=
  bif s.rt.plain && fresh (liftId i) st then
    match s.thru, st.tm.getD s.t .undef with
    | false, v => match liftAV (liftId i) s.j v with
      | some v' => ⟨st.tm.set s.t v', (liftId i, .rows s.e s.rt []) :: st.ob⟩
      | none => st
    | true, .c (.leaf (.ptr o off)) => match lku st.ob o with
      | some (.cells ty vs) => bif nilAt vs (off + s.j) then
          ⟨st.tm, (liftId i, .rows s.e s.rt []) :: replO [(o, .cells ty (vs.set (off + s.j) (.own (liftId i))))] st.ob⟩
        else st
      | _ => st
    | _, _ => st
  else st
def St.lift : List Lift → Nat → St → St
  | [], _, st => st
  | s :: r, i, st => St.lift r (i + 1) (st.lift1 i s)
def St.head (np : Nat) (h : Hd) (st : St) : St := (St.lift h.lifts 0 st).norm np h.live

/-! ### Operations of a region -/
structure Lg where
  foot : List Nat
  wr : List Nat
  nw : List Nat
  vi : List Nat

def opIds (st : St) (o : Oper) : List Nat := o.op.operands.toList.flatMap fun x => (st.ev x).ids
def footOf (st : St) (o : Oper) : List Nat := reach (lku st.ob) (opIds st o)
def limit (l : List Nat) (lk : Nat → Option AO) (o : Nat) : Option AO := bif l.any (Nat.beq o) then lk o else none

def ev (T : Env) (lim : Bool) (o : Oper) (st : St) : Res Upd :=
  bif lim then evCore T st.ev (limit (footOf st o) (lku st.ob)) o else evCore T st.ev (lku st.ob) o

def lgOf (st : St) (o : Oper) (u : Upd) : Lg :=
  ⟨footOf st o, u.set.map (·.1) ++ u.del ++ u.new.map (·.1), u.new.map (·.1), u.new.map (·.1) ++ u.val.ids ++ u.set.flatMap (fun p => p.2.ids) ++ u.new.flatMap (fun p => p.2.ids)⟩

def gdst (ops : List Oper) (g : Nat) : Option Tmp :=
  match ops[g]? with
  | some o => o.dst
  | none => none

def nodup : List Nat → Bool
  | [] => true
  | x :: r => !(r.any (Nat.beq x)) && nodup r

/-- What an update must show beside its values: new numbers are new, each once; what is written is there. -/
def Upd.fits (u : Upd) (st : St) : Bool :=
  u.ok && u.new.all (fun p => Nat.ble 64 p.1 && fresh p.1 st) && nodup (u.new.map (·.1)) &&
  u.set.all (fun p => (lku st.ob p.1).isSome && !(u.del.any (Nat.beq p.1)))

/-! ### A row that is laid into a row of rows -/
def LV.dropInn (p : Nat) : LV → LV
  | .inn o i => bif Nat.beq o p then .undef else .inn o i
  | .iptr o i j f => bif Nat.beq o p then .undef else .iptr o i j f
  | x => x
def CV.dropInn (p : Nat) : CV → CV
  | .leaf x => .leaf (x.dropInn p)
  | .agg l => .agg (l.map (LV.dropInn p))
def AV.dropInn (p : Nat) : AV → AV
  | .c x => .c (x.dropInn p)
  | .tup l => .tup (l.map (CV.dropInn p))
def AO.dropInn (p : Nat) : AO → AO
  | .cells t vs => .cells t (vs.map (LV.dropInn p))
  | a => a
def touchO (p : Nat) (a' : AO) (ds : List Nat) : Objs → Objs
  | [] => []
  | (k, a) :: r => bif ds.any (Nat.beq k) then touchO p a' ds r else (k, bif Nat.beq k p then a' else a.dropInn p) :: touchO p a' ds r
def touch (T : Env) (o : Oper) (st : St) : Option St :=
  match o.op with
  | .store t a x => match st.ev a, st.ev x with
    | .c (.leaf (.eptr p i 0)), .c (.leaf y) => match lku st.ob p with
      | some (.rows e (.list e2 b) xs) => match appDst (lku st.ob) e2 b y with
        | some (ys, ds) => bif !(Nat.blt p T.np) && !(ds.any (Nat.beq p)) && b.flat && szIs T t 1 then
            some (({ tm := st.tm.map (AV.dropInn p), ob := touchO p (.rows e (.list e2 b) (xs.set i ys)) ds st.ob } : St).put o.dst (.lf .void))
          else none
        | none => none
      | _ => none
    | _, _ => none
  | _ => none

section
variable {R : Type}

def evOps (T : Env) (lim : Bool) (ops : List Oper) : List Oper → List Lg → St → (List Lg → St → Option R) → Option R
  | [], lg, st, K => K lg st
  | o :: r, lg, st, K =>
    match o.guard with
    | none => match (bif lim then none else touch T o st) with
      | some st' => evOps T lim ops r (⟨[], [], [], []⟩ :: lg) st' K
      | none => (ev T lim o st).run fun u => bif u.fits st then evOps T lim ops r (lgOf st o u :: lg) (st.app o.dst u) K else none
    | some (g, want) =>
      match gdst ops g with
      | some d =>
        match st.tm.getD d .undef with
        | .c (.leaf (.bool b)) =>
          let yes (st : St) : Option R := (ev T lim o st).run fun u => bif u.fits st then evOps T lim ops r (lgOf st o u :: lg) (st.app o.dst u) K else none
          let skips (st : St) : Option R := evOps T lim ops r (⟨[], [], [], []⟩ :: lg) (st.put o.dst (.lf .void)) K
          let t := st.put (some d) (.lf (.bool true))
          let f := st.put (some d) (.lf (.bool false))
          if b = true then (bif want then yes t else skips t) else (bif want then skips f else yes f)
        | .c (.leaf .void) => evOps T lim ops r (⟨[], [], [], []⟩ :: lg) (st.put o.dst (.lf .void)) K
        | _ => none
      | none => none

/-! ### Regions whose order is drawn -/
def looks (ops : List Oper) (o : Oper) : List Tmp :=
  (o.op.operands.toList.flatMap fun | .tmp t => [t] | _ => []) ++
  (match o.guard with
   | some (g, _) => match gdst ops g with | some d => [d] | none => []
   | none => [])

def meets (a b : List Nat) : Bool := a.any fun x => b.any (Nat.beq x)

/-- What lies ahead of each operation, of those behind acc: one bit each. -/
def befMask (acc : List Nat) : List Edge → Nat → Nat
  | [], m => m
  | e :: r, m => befMask acc r (bif Region.binds .any e then Nat.lor (Nat.lor m (Nat.pow 2 e.on)) (acc.getD e.on 0) else m)
def befs : List Oper → List Nat → List Nat
  | [], acc => acc
  | o :: r, acc => befs r (acc ++ [befMask acc o.after.toList 0])

def edgesOk : List Oper → Nat → Bool
  | [], _ => true
  | o :: r, i => o.after.toList.all (fun e => !(Region.binds .any e) || Nat.blt e.on i) && edgesOk r (i + 1)

def optMem (d : Option Tmp) (l : List Tmp) : Bool :=
  match d with
  | some d => l.any (Nat.beq d)
  | none => false

def apart (ops : List Oper) (x y : Oper) (a b : Lg) : Bool :=
  !(optMem x.dst (looks ops y)) && !(optMem y.dst (looks ops x)) &&
  !(match x.dst with | some d => optMem y.dst [d] | none => false) &&
  !(meets a.wr b.foot) && !(meets a.foot b.wr) && !(meets a.wr b.wr) && !(meets a.nw b.vi) && !(meets b.nw a.vi)

/-- Each one of the later operations (number j on) is behind operation i, or apart from it. -/
def apartAll (ops : List Oper) (bs : List Nat) (i : Nat) (x : Oper) (a : Lg) : List Oper → List Lg → Nat → Bool
  | [], _, _ => true
  | y :: r, b :: s, j => (Nat.testBit (bs.getD j 0) i || apart ops x y a b) && !(meets b.nw a.vi) && apartAll ops bs i x a r s (j + 1)
  | _, [], _ => false
def apartFrom (ops : List Oper) (bs : List Nat) : List Oper → List Lg → Nat → Bool
  | [], _, _ => true
  | x :: r, a :: s, i => apartAll ops bs i x a r s (i + 1) && apartFrom ops bs r s (i + 1)
  | _, [], _ => false

def okDraw (ops : List Oper) (st : St) (lg : List Lg) : Bool :=
  edgesOk ops 0 && apartFrom ops (befs ops []) ops lg 0 && lg.all fun l => l.nw.all fun n => fresh n st

def headed (T : Env) (id : Nat) (st : St) : St :=
  match assoc T.ann id with
  | some h => st.head T.np h
  | none => st
def drawn (T : Env) (ops : List Oper) (st : St) (K : St → Option R) : Option R :=
  evOps T true ops ops [] st fun lg st' => bif okDraw ops st lg.reverse then K st' else none
def evBody (T : Env) (ops : List Oper) (draw : Bool) (st : St) (K : St → Option R) : Option R :=
  bif draw then drawn T ops (st.clear ops) K else evOps T false ops ops [] (st.clear ops) fun _ st' => K st'
/-- The same either way: a variable in place of the bool holds the evaluation up. -/
abbrev gate (b : Bool) (x : Option R) : Option R :=
  match b with
  | true => x
  | false => x
theorem gate_eq (b : Bool) (x : Option R) : gate b x = x := by cases b <;> rfl
def evRegion (T : Env) (id : Nat) (ops : List Oper) (draw : Bool) (st : St) (K : St → Option R) : Option R :=
  match assoc T.ann id with
  | some h => gate (T.gate id) (evBody T ops draw (st.head T.np h) K)
  | none => evBody T ops draw st K
theorem evRegion_eq (T : Env) (id : Nat) (ops : List Oper) (draw : Bool) (st : St) (K : St → Option R) : evRegion T id ops draw st K = evBody T ops draw (headed T id st) K := by
  unfold evRegion headed
  split
  · exact gate_eq _ _
  · rfl

/-! ### Code -/
inductive Ex where
  | normal
  | exit (id : Nat)
  | ret

/-- The number of the first region. -/
def headId : Code → Nat
  | .region id _ _ => id
  | .seq a _ => headId a
  | .cond _ a _ => headId a
  | .block _ a => headId a
  | .loop a => headId a
  | _ => 0

def looped (T : Env) (a : Code) (st : St) : St :=
  match assoc T.lan (headId a) with
  | some h => st.head T.np h
  | none => st

def evLoop (h : St → St) (f : St → (Ex → St → Option R) → Option R) : Nat → St → (Ex → St → Option R) → Option R
  | 0, _, _ => none
  | n + 1, st, K => f st fun e st' => match e with
    | .normal => evLoop h f n (h st') K
    | e => K e st'

def evCode (T : Env) : Code → St → (Ex → St → Option R) → Option R
  | .skip, st, K => K .normal st
  | .region id ops draw, st, K => evRegion T id ops.toList draw st (K .normal)
  | .seq a b, st, K => evCode T a st fun e st' => match e with
    | .normal => evCode T b st' K
    | e => K e st'
  | .cond c a b, st, K => match st.ev c with
    | .c (.leaf (.bool t)) => if t = true then evCode T a st K else evCode T b st K
    | _ => none
  | .block id a, st, K => evCode T a st fun e st' => match e with
    | .exit i => bif Nat.beq i id then K .normal st' else K (.exit i) st'
    | e => K e st'
  | .loop a, st, K => evLoop (looped T a) (fun st K => evCode T a st K) T.fuel (looped T a st) K
  | .exit id, st, K => K (.exit id) st
  | .ret, st, K => K .ret st
  | _, _, _ => none

def kseq (T : Env) (b : Code) (K : Ex → St → Option R) : Ex → St → Option R := fun e st' => match e with
  | .normal => evCode T b st' K
  | e => K e st'
def kblock (id : Nat) (K : Ex → St → Option R) : Ex → St → Option R := fun e st' => match e with
  | .exit i => bif Nat.beq i id then K .normal st' else K (.exit i) st'
  | e => K e st'
def kloop (T : Env) (a : Code) (n : Nat) (K : Ex → St → Option R) : Ex → St → Option R := fun e st' => match e with
  | .normal => evLoop (looped T a) (fun st K => evCode T a st K) n (looped T a st') K
  | e => K e st'

/-! ### Places in code, to name what goes on from there -/
inductive Dir where
  | l | r
def sub : List Dir → Code → Code
  | [], c => c
  | .l :: p, .seq a _ => sub p a
  | .r :: p, .seq _ b => sub p b
  | .l :: p, .cond _ a _ => sub p a
  | .r :: p, .cond _ _ b => sub p b
  | _ :: p, .block _ a => sub p a
  | _ :: p, .loop a => sub p a
  | _, _ => .skip
def subF (fn : Func) (p : List Dir) : Code :=
  match fn.body with
  | some c => sub p c
  | none => .skip
def atRegion (T : Env) (c : Code) (st : St) (K : Ex → St → Option R) : Option R :=
  match c with
  | .region _ ops draw => evBody T ops.toList draw st (K .normal)
  | _ => none
def atLoop (T : Env) (c : Code) (n : Nat) (st : St) (K : Ex → St → Option R) : Option R :=
  match c with
  | .loop a => evLoop (looped T a) (fun st K => evCode T a st K) n st K
  | _ => none
def klp (T : Env) (c : Code) (n : Nat) (K : Ex → St → Option R) : Ex → St → Option R :=
  match c with
  | .loop a => kloop T a n K
  | _ => K
def ksq (T : Env) (c : Code) (K : Ex → St → Option R) : Ex → St → Option R :=
  match c with
  | .seq _ b => kseq T b K
  | _ => K
def kbl (c : Code) (K : Ex → St → Option R) : Ex → St → Option R :=
  match c with
  | .block id _ => kblock id K
  | _ => K

/-! ### Functions -/
def resOf (T : Env) (st : St) : ResultVar → Option CV
  | .tmp t => match st.tm.getD t .undef with
    | .c x => some x
    | _ => none
  | .cell a t => match evLoad T (lku st.ob) t (st.tm.getD a .undef) with
    | .ok (.c x) => some x
    | _ => none
def ressOf (T : Env) (st : St) : List ResultVar → Option (List CV)
  | [] => some []
  | r :: rs => match resOf T st r, ressOf T st rs with
    | some x, some xs => some (x :: xs)
    | _, _ => none
def packA : List CV → AV
  | [x] => .c x
  | l => .tup l
def finish (T : Env) (rs : List ResultVar) (st : St) (K : AV → Objs → Option R) : Option R :=
  match ressOf T st rs with
  | some l =>
    let v : AV := AV.drop (dead (lku st.ob)) (packA l)
    let L := canon T.np (lku st.ob) v.ids
    K (v.ren (rn T.np L)) (relabel T.np (lku st.ob) L)
  | none => none

def kret (T : Env) (rs : List ResultVar) (K : AV → Objs → Option R) : Ex → St → Option R := fun e st => match e with
  | .exit _ => none
  | _ => finish T rs (St.lift T.fin 0 st) K

def evFn (T : Env) (fn : Func) (args : List AV) (ob : Objs) (K : AV → Objs → Option R) : Option R :=
  match fn.body with
  | some c => evCode T c ⟨args ++ List.replicate (fn.ntmps - args.length) (.lf .void), ob⟩ (kret T fn.results.toList K)
  | none => none
end

end Go.Proofs.Ytiooamodldgalaa.Abs
