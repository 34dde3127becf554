/-
Shapes of arguments and results: plain data to abstract values and back; a function's contract out of its plain function.
-/
import Derived.Test.YtiooamodldgalaaAbs21
namespace Go.Proofs.Ytiooamodldgalaa.Abs
open Go

inductive SL where
  | int (k : IntKind) | bool | str | ro (t : RT) | own (o : Nat) | ptr (o off : Nat) | nilp | nils | mp (o : Nat) | fn (f : FuncId) (cs : List Nat) | void | inn (o : Nat)
inductive HV where
  | leaf (s : SL) | agg (l : List SL)
inductive HA where
  | c (h : HV) | tup (l : List HV)
inductive HO where
  | cells (t : TypeId) (l : List SL) | rows (e : TypeId) (t : RT) | mset

@[reducible] def DL : SL → Type → Type
  | .int _, R => Int × R
  | .bool, R => Bool × R
  | .str, R => ByteArray × R
  | .ro t, R => List (El t) × R
  | .inn _, R => Nat × R
  | _, R => R
@[reducible] def DLs : List SL → Type → Type
  | [], R => R
  | s :: r, R => DL s (DLs r R)
@[reducible] def DV : HV → Type → Type
  | .leaf s, R => DL s R
  | .agg l, R => DLs l R
@[reducible] def DVs : List HV → Type → Type
  | [], R => R
  | s :: r, R => DV s (DVs r R)
@[reducible] def DA : HA → Type → Type
  | .c h, R => DV h R
  | .tup l, R => DVs l R
@[reducible] def DAs : List HA → Type → Type
  | [], R => R
  | s :: r, R => DA s (DAs r R)
@[reducible] def DO : HO → Type → Type
  | .cells _ l, R => DLs l R
  | .rows _ t, R => List (El t) × R
  | .mset, R => List Int × R
@[reducible] def DOs : List (Nat × HO) → Type → Type
  | [], R => R
  | s :: r, R => DO s.2 (DOs r R)
structure Sh where
  as : List HA
  os : List (Nat × HO)
@[reducible] def Dt (s : Sh) : Type := DAs s.as (DOs s.os Unit)

/-! ### To abstract values -/
def pkL {R : Type} : (s : SL) → DL s R → LV × R
  | .int k, x => (.int k x.1, x.2)
  | .bool, x => (.bool x.1, x.2)
  | .str, x => (.str x.1, x.2)
  | .ro t, x => (.ro t x.1, x.2)
  | .own o, x => (.own o, x)
  | .ptr o f, x => (.ptr o f, x)
  | .nilp, x => (.nilp, x)
  | .nils, x => (.nils, x)
  | .mp o, x => (.mp o, x)
  | .fn f cs, x => (.fn f cs, x)
  | .void, x => (.void, x)
  | .inn o, x => (.inn o x.1, x.2)
def pkLs {R : Type} : (s : List SL) → DLs s R → List LV × R
  | [], x => ([], x)
  | s :: r, x => (((pkL s x).1 :: (pkLs r (pkL s x).2).1), (pkLs r (pkL s x).2).2)
def pkV {R : Type} : (s : HV) → DV s R → CV × R
  | .leaf s, x => (.leaf (pkL s x).1, (pkL s x).2)
  | .agg l, x => (.agg (pkLs l x).1, (pkLs l x).2)
def pkVs {R : Type} : (s : List HV) → DVs s R → List CV × R
  | [], x => ([], x)
  | s :: r, x => (((pkV s x).1 :: (pkVs r (pkV s x).2).1), (pkVs r (pkV s x).2).2)
def pkA {R : Type} : (s : HA) → DA s R → AV × R
  | .c h, x => (.c (pkV h x).1, (pkV h x).2)
  | .tup l, x => (.tup (pkVs l x).1, (pkVs l x).2)
def pkAs {R : Type} : (s : List HA) → DAs s R → List AV × R
  | [], x => ([], x)
  | s :: r, x => (((pkA s x).1 :: (pkAs r (pkA s x).2).1), (pkAs r (pkA s x).2).2)
def pkO {R : Type} : (s : HO) → DO s R → AO × R
  | .cells t l, x => (.cells t (pkLs l x).1, (pkLs l x).2)
  | .rows e t, x => (.rows e t x.1, x.2)
  | .mset, x => (.mset x.1, x.2)
def pkOs {R : Type} : (s : List (Nat × HO)) → DOs s R → Objs × R
  | [], x => ([], x)
  | s :: r, x => (((s.1, (pkO s.2 x).1) :: (pkOs r (pkO s.2 x).2).1), (pkOs r (pkO s.2 x).2).2)
def pk (s : Sh) (x : Dt s) : List AV × Objs := ((pkAs s.as x).1, (pkOs s.os (pkAs s.as x).2).1)

/-! ### And back -/
def unL {R : Type} : (s : SL) → LV → R → Option (DL s R)
  | .int k, .int l n, r => if k = l then some (n, r) else none
  | .bool, .bool b, r => some (b, r)
  | .str, .str b, r => some (b, r)
  | .ro t, .ro u xs, r => match castL t ⟨u, xs⟩ with
    | some ys => some (ys, r)
    | none => none
  | .own o, .own p, r => bif Nat.beq o p then some r else none
  | .ptr o f, .ptr p g, r => bif Nat.beq o p && Nat.beq f g then some r else none
  | .nilp, .nilp, r => some r
  | .nils, .nils, r => some r
  | .mp o, .mp p, r => bif Nat.beq o p then some r else none
  | .fn f cs, .fn g ds, r => if f = g ∧ cs = ds then some r else none
  | .void, .void, r => some r
  | .inn o, .inn p i, r => bif Nat.beq o p then some (i, r) else none
  | _, _, _ => none
def unLs {R : Type} : (s : List SL) → List LV → R → Option (DLs s R)
  | [], [], r => some r
  | s :: t, x :: xs, r => match unLs t xs r with
    | some y => unL s x y
    | none => none
  | _, _, _ => none
def unV {R : Type} : (s : HV) → CV → R → Option (DV s R)
  | .leaf s, .leaf x, r => unL s x r
  | .agg l, .agg xs, r => unLs l xs r
  | _, _, _ => none
def unVs {R : Type} : (s : List HV) → List CV → R → Option (DVs s R)
  | [], [], r => some r
  | s :: t, x :: xs, r => match unVs t xs r with
    | some y => unV s x y
    | none => none
  | _, _, _ => none
def unA {R : Type} : (s : HA) → AV → R → Option (DA s R)
  | .c h, .c x, r => unV h x r
  | .tup l, .tup xs, r => unVs l xs r
  | _, _, _ => none
def unAs {R : Type} : (s : List HA) → List AV → R → Option (DAs s R)
  | [], [], r => some r
  | s :: t, x :: xs, r => match unAs t xs r with
    | some y => unA s x y
    | none => none
  | _, _, _ => none
def unO {R : Type} : (s : HO) → AO → R → Option (DO s R)
  | .cells t l, .cells u xs, r => if t = u then unLs l xs r else none
  | .rows e t, .rows f u xs, r => if e = f then match castL t ⟨u, xs⟩ with
    | some ys => some (ys, r)
    | none => none
    else none
  | .mset, .mset es, r => some (es, r)
  | _, _, _ => none
def unOs {R : Type} : (s : List (Nat × HO)) → Objs → R → Option (DOs s R)
  | [], [], r => some r
  | s :: t, x :: xs, r => bif Nat.beq s.1 x.1 then match unOs t xs r with
    | some y => unO s.2 x.2 y
    | none => none
    else none
  | _, _, _ => none
def un (s : Sh) (as : List AV) (os : Objs) : Option (Dt s) :=
  match unOs s.os os () with
  | some y => unAs s.as as y
  | none => none

theorem bif_or {R : Type} {b : Bool} {k : Option R} {x : R} (h : (bif b then k else none) = some x) : b = true ∧ k = some x := bif_some h

theorem unL_pk {R : Type} {s : SL} {x : LV} {r : R} {y : DL s R} (h : unL s x r = some y) : pkL s y = (x, r) := by
  cases s <;> cases x <;> simp only [unL] at h <;> try (cases h; done)
  case int.int k l n =>
    split at h
    · rename_i e
      subst e
      injection h with h
      subst h
      rfl
    · cases h
  case ro.ro t u xs =>
    split at h
    · rename_i ys hys
      injection h with h
      subst h
      obtain ⟨e, rfl⟩ := castL_some hys
      subst e
      rfl
    · cases h
  case own.own o p =>
    obtain ⟨hb, h⟩ := bif_or h
    injection h with h
    subst h
    rw [Nat.eq_of_beq_eq_true hb]; rfl
  case ptr.ptr o f p g =>
    obtain ⟨hb, h⟩ := bif_or h
    injection h with h
    subst h
    simp only [Bool.and_eq_true] at hb
    rw [Nat.eq_of_beq_eq_true hb.1, Nat.eq_of_beq_eq_true hb.2]; rfl
  case mp.mp o p =>
    obtain ⟨hb, h⟩ := bif_or h
    injection h with h
    subst h
    rw [Nat.eq_of_beq_eq_true hb]; rfl
  case fn.fn f cs g ds =>
    split at h
    · rename_i e
      obtain ⟨e1, e2⟩ := e
      subst e1; subst e2
      injection h with h
      subst h
      rfl
    · cases h
  case inn.inn o p i =>
    obtain ⟨hb, h⟩ := bif_or h
    injection h with h
    subst h
    rw [Nat.eq_of_beq_eq_true hb]; rfl
  all_goals (injection h with h; subst h; rfl)

theorem unLs_pk {R : Type} : ∀ {s : List SL} {x : List LV} {r : R} {y : DLs s R}, unLs s x r = some y → pkLs s y = (x, r)
  | [], [], r, y, h => by injection h with h; subst h; rfl
  | [], _ :: _, _, _, h => by cases h
  | _ :: _, [], _, _, h => by cases h
  | s :: t, x :: xs, r, y, h => by
    simp only [unLs] at h
    split at h
    · rename_i z hz
      have h1 := unL_pk h
      have h2 := unLs_pk hz
      simp only [pkLs, h1, h2]
    · cases h
theorem unV_pk {R : Type} {s : HV} {x : CV} {r : R} {y : DV s R} (h : unV s x r = some y) : pkV s y = (x, r) := by
  cases s <;> cases x <;> simp only [unV] at h <;> try (cases h; done)
  · have := unL_pk h
    simp only [pkV, this]
  · have := unLs_pk h
    simp only [pkV, this]
theorem unVs_pk {R : Type} : ∀ {s : List HV} {x : List CV} {r : R} {y : DVs s R}, unVs s x r = some y → pkVs s y = (x, r)
  | [], [], r, y, h => by injection h with h; subst h; rfl
  | [], _ :: _, _, _, h => by cases h
  | _ :: _, [], _, _, h => by cases h
  | s :: t, x :: xs, r, y, h => by
    simp only [unVs] at h
    split at h
    · rename_i z hz
      have h1 := unV_pk h
      have h2 := unVs_pk hz
      simp only [pkVs, h1, h2]
    · cases h
theorem unA_pk {R : Type} {s : HA} {x : AV} {r : R} {y : DA s R} (h : unA s x r = some y) : pkA s y = (x, r) := by
  cases s <;> cases x <;> simp only [unA] at h <;> try (cases h; done)
  · have := unV_pk h
    simp only [pkA, this]
  · have := unVs_pk h
    simp only [pkA, this]
theorem unAs_pk {R : Type} : ∀ {s : List HA} {x : List AV} {r : R} {y : DAs s R}, unAs s x r = some y → pkAs s y = (x, r)
  | [], [], r, y, h => by injection h with h; subst h; rfl
  | [], _ :: _, _, _, h => by cases h
  | _ :: _, [], _, _, h => by cases h
  | s :: t, x :: xs, r, y, h => by
    simp only [unAs] at h
    split at h
    · rename_i z hz
      have h1 := unA_pk h
      have h2 := unAs_pk hz
      simp only [pkAs, h1, h2]
    · cases h
theorem unO_pk {R : Type} {s : HO} {x : AO} {r : R} {y : DO s R} (h : unO s x r = some y) : pkO s y = (x, r) := by
  cases s <;> cases x <;> simp only [unO] at h <;> try (cases h; done)
  case cells.cells t l u xs =>
    split at h
    · rename_i e
      subst e
      have := unLs_pk h
      simp only [pkO, this]
    · cases h
  case rows.rows e t f u xs =>
    split at h
    · rename_i he
      subst he
      split at h
      · rename_i ys hys
        injection h with h
        subst h
        obtain ⟨e, rfl⟩ := castL_some hys
        subst e
        rfl
      · cases h
    · cases h
  case mset.mset es =>
    injection h with h
    subst h
    rfl
theorem unOs_pk {R : Type} : ∀ {s : List (Nat × HO)} {x : Objs} {r : R} {y : DOs s R}, unOs s x r = some y → pkOs s y = (x, r)
  | [], [], r, y, h => by injection h with h; subst h; rfl
  | [], _ :: _, _, _, h => by cases h
  | _ :: _, [], _, _, h => by cases h
  | s :: t, x :: xs, r, y, h => by
    simp only [unOs] at h
    obtain ⟨hb, h⟩ := bif_or h
    split at h
    · rename_i z hz
      have h1 := unO_pk h
      have h2 := unOs_pk hz
      simp only [pkOs, h1, h2, Nat.eq_of_beq_eq_true hb]
    · cases h
theorem un_pk {s : Sh} {as : List AV} {os : Objs} {y : Dt s} (h : un s as os = some y) : pk s y = (as, os) := by
  unfold un at h
  split at h
  · rename_i z hz
    have h1 := unAs_pk h
    have h2 := unOs_pk hz
    simp only [pk, h1, h2]
  · cases h

/-! ### A function's contract -/
def oneA (as : List AV) : AV :=
  match as with
  | [v] => v
  | _ => .undef

/-- What an oracle tells of a function, whose plain function is G. -/
def orc (i o : Sh) (G : Dt i → Option (Dt o)) (args : List AV) (objs : Objs) : Res (AV × Objs) :=
  match un i args objs with
  | some x => .go (Dt o) (G x) fun y => (oneA (pk o y).1, (pk o y).2)
  | none => .stuck

def unOut (o : Sh) (v : AV) (ob : Objs) : Option (Dt o) := un o [v] ob

/-- The function's code comes to its plain function. -/
def Comes1 (T : Env) (fn : Func) (i o : Sh) (G : Dt i → Option (Dt o)) : Prop := ∀ x : Dt i, evFn T fn (pk i x).1 (pk i x).2 (unOut o) = G x

theorem orc_good {P : Program} {T : Env} (hT : EnvOk P T) (hm : P.follows .mixedOrders = true) (hnp : T.np ≤ 64) {f : FuncId} {fn : Func} (hfn : P.funcs[f]? = some fn) (hname : (fn.name == "runtime.NumGoroutine") = false)
    {i o : Sh} {G : Dt i → Option (Dt o)} (hG : Comes1 T fn i o G) (hobj : (i.os.all fun p => Nat.blt p.1 T.np) = true) {args : List AV} {objs : Objs} {v : AV} {ob : Objs} (h : (orc i o G args objs).gives (v, ob)) : Good P f args objs v ob := by
  unfold orc at h
  split at h
  · rename_i x hx
    obtain ⟨y, hy, e⟩ := h
    have hp := un_pk hx
    have he := hG x
    rw [hp, hy] at he
    refine fn_sound hT hm hnp hfn hname ?_ he ?_
    · have keys : ∀ {R : Type} {s : List (Nat × HO)} {x : Objs} {r : R} {y : DOs s R}, unOs s x r = some y → (s.all fun p => Nat.blt p.1 T.np) = true → x.all (fun p => Nat.blt p.1 T.np) = true := by
        intro R s
        induction s with
        | nil =>
          intro x r y h _
          cases x with
          | nil => rfl
          | cons => cases h
        | cons p s ih =>
          intro x r y h hs
          cases x with
          | nil => cases h
          | cons q x =>
            simp only [unOs] at h
            obtain ⟨hb, h⟩ := bif_or h
            split at h
            · rename_i z hz
              simp only [List.all_cons, Bool.and_eq_true] at hs ⊢
              exact ⟨by rw [← Nat.eq_of_beq_eq_true hb]; exact hs.1, ih hz hs.2⟩
            · cases h
      unfold un at hx
      split at hx
      · rename_i z hz
        exact keys hz hobj
      · cases hx
    · intro v' ob' hv
      have hp' := un_pk hv
      rw [Prod.mk.injEq] at e
      rw [e.1, e.2, hp']
      exact ⟨rfl, rfl⟩
  · exact h.elim

def orcOr (i o : Sh) (G : Dt i → Option (Dt o)) (args : List AV) (objs : Objs) (alt : Res (AV × Objs)) : Res (AV × Objs) :=
  match un i args objs with
  | some x => .go (Dt o) (G x) fun y => (oneA (pk o y).1, (pk o y).2)
  | none => alt
/-- One function more. -/
def Env.with (T : Env) (f : FuncId) (i o : Sh) (G : Dt i → Option (Dt o)) : Env := { T with O := fun g args objs => bif Nat.beq g f then orcOr i o G args objs (T.O g args objs) else T.O g args objs }
/-- The setting of one function. -/
def Env.at (T : Env) (np fuel : Nat) (ann lan : List (Nat × Hd)) (fin : List Lift) : Env := { T with np := np, fuel := fuel, ann := ann, lan := lan, fin := fin }

/-- .. and where its evaluation is held up. -/
def Env.gated (T : Env) (γ : Nat → Bool) : Env := { T with gate := γ }
theorem EnvOk.gated {P : Program} {T : Env} (h : EnvOk P T) (γ : Nat → Bool) : EnvOk P (T.gated γ) := by
  obtain ⟨h1, h2, h3⟩ := h
  exact ⟨⟨fun t i hi => h1.1 t i hi⟩, ⟨fun t p hp => h2.1 t p hp⟩, h3⟩

theorem EnvOk.at {P : Program} {T : Env} (h : EnvOk P T) (np fuel : Nat) (ann lan : List (Nat × Hd)) (fin : List Lift) : EnvOk P (T.at np fuel ann lan fin) := by
  obtain ⟨h1, h2, h3⟩ := h
  exact ⟨⟨fun t i hi => h1.1 t i hi⟩, ⟨fun t p hp => h2.1 t p hp⟩, h3⟩

theorem EnvOk.with {P : Program} {T : Env} (h : EnvOk P T) (hm : P.follows .mixedOrders = true) {np fuel : Nat} {ann lan : List (Nat × Hd)} {fin : List Lift} {γ : Nat → Bool} (hnp : np ≤ 64) {f : FuncId} {fn : Func} (hfn : P.funcs[f]? = some fn) (hname : (fn.name == "runtime.NumGoroutine") = false)
    {i o : Sh} {G : Dt i → Option (Dt o)} (hG : Comes1 ((T.at np fuel ann lan fin).gated γ) fn i o G) (hobj : (i.os.all fun p => Nat.blt p.1 np) = true) : EnvOk P (T.with f i o G) := by
  refine ⟨⟨fun t i hi => h.ty.1 t i hi⟩, ⟨fun t p hp => h.eq.1 t p hp⟩, fun g args objs v ob hg => ?_⟩
  have hg : (bif Nat.beq g f then orcOr i o G args objs (T.O g args objs) else T.O g args objs).gives (v, ob) := hg
  cases hb : Nat.beq g f with
  | true =>
    rw [hb] at hg
    have hg : (orcOr i o G args objs (T.O g args objs)).gives (v, ob) := hg
    have hgf := Nat.eq_of_beq_eq_true hb
    unfold orcOr at hg
    split at hg
    · rename_i x hx
      rw [hgf]
      refine orc_good ((h.at np fuel ann lan fin).gated γ) hm hnp hfn hname hG hobj (args := args) (objs := objs) ?_
      unfold orc
      rw [hx]
      exact hg
    · exact h.or g args objs v ob hg
  | false =>
    rw [hb] at hg
    exact h.or g args objs v ob hg

theorem EqOk.of_all {P : Program} {T : Env} (h : (T.eqs.all fun x => eqOk P x.1 x.2) = true) : EqOk P T := ⟨fun t i hi => assoc_all h t i hi⟩

/-! ### Short names for the printed texts -/
@[reducible] def W (n : Int) : Int := IntKind.i64.wrap n
def tml (n : Nat) (l : List (Nat × AV)) : List AV := (List.range n).map fun i => match assoc l i with | some v => v | none => .undef
end Go.Proofs.Ytiooamodldgalaa.Abs
