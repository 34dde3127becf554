/-
States: what an abstract state says of a frame and a world; every operation.
-/
import Derived.Test.YtiooamodldgalaaAbs16
namespace Go.Proofs.Ytiooamodldgalaa.Abs
open Go

section
variable {E : Ctx} {lk lk0 : Nat → Option AO} {ι : Im} {w w' : World} {P : Program} {T : Env}

/-- What makes an environment right for a program. -/
structure EnvOk (P : Program) (T : Env) : Prop where
  ty : TyOk P T
  eq : EqOk P T
  or : ∀ f args objs v ob, (T.O f args objs).gives (v, ob) → Good P f args objs v ob

theorem capsOf_rel {sg : Nat → Option Sig} : ∀ {cs : List Nat}, (∀ o ∈ cs, sg o = some .cells → ∃ g, ι.v o = .pointer (some ⟨g, 0, none⟩)) → F2 (ARel E sg ι) (capsOf cs) (cs.map ι.v)
  | [], _ => .nil
  | o :: cs, h => .cons (fun hs => let ⟨g, hg⟩ := h o (by simp) hs; ⟨g, hg, hg⟩) (capsOf_rel fun p hp => h p (by simp [hp]))

/-- Every operation. -/
theorem op_ok (hT : EnvOk P T) (h : Inv E lk ι w) (hsub : ∀ o a, lk0 o = some a → lk o = some a) {ρ : Operand → AV} {a : Act} (hρ : ∀ x, ARel E (sgOf lk) ι (ρ x) (a.eval x))
    {o : Oper} {u : Upd} (hu : (evCore T ρ lk0 o).gives u) (hok : u.ok = true)
    (hn : ∀ p ∈ u.new, lk p.1 = none ∧ (∀ q b, lk q = some b → p.1 ∉ b.ids) ∧ ∀ x, p.1 ∉ (ρ x).ids) : OpOk P E lk ι o a w u := by
  cases hc : callsVal o.op with
  | false => exact (step_op hT.ty hT.eq h hsub hρ hc hu hn).ok
  | true =>
    obtain ⟨dst, op, type, pos, after, guard⟩ := o
    cases op <;> simp only [callsVal] at hc <;> try (cases hc; done)
    rename_i c
    obtain ⟨callee, args, argTypes⟩ := c
    cases callee with
    | invoke _ _ => cases hc
    | builtin _ => cases hc
    | value f =>
      have hu : (match ρ f with
        | .c (.leaf (.fn g cs)) => bif (LV.fn g cs).solid lk0 then evCall T lk0 dst g (args.toList.map ρ ++ capsOf cs) else .stuck
        | _ => .stuck).gives u := hu
      have hf := hρ f
      split at hu
      · rename_i g cs hg
        rw [hg] at hf
        cases hs : (LV.fn g cs).solid lk0 with
        | false => rw [hs] at hu; exact hu.elim
        | true =>
          rw [hs] at hu
          have hu : (evCall T lk0 dst g (args.toList.map ρ ++ capsOf cs)).gives u := hu
          have hcell : ∀ o ∈ cs, sgOf lk o = some .cells := by
            intro o ho
            have hb := List.all_eq_true.1 hs o ho
            split at hb
            · rename_i t vs hl
              simp [sgOf, hsub _ _ hl, sig]
            · cases hb
          have hv : a.eval f = .func (.func g) #[] (cs.map ι.v).toArray := hf hcell
          have hcaps : F2 (ARel E (sgOf lk) ι) (capsOf cs) (cs.map ι.v) := by
            refine capsOf_rel fun o ho hso => ?_
            cases hl : lk o with
            | none => rw [sgOf, hl] at hso; cases hso
            | some b =>
              have hb := h.ob o b hl
              cases b with
              | cells t vs =>
                obtain ⟨k, _, hk, _⟩ := hb
                exact ⟨k, hk⟩
              | rows e t xs => simp [sgOf, hl, sig] at hso
              | mset es => simp [sgOf, hl, sig] at hso
          have hargs : F2 (ARel E (sgOf lk) ι) (args.toList.map ρ ++ capsOf cs) (args.toList.map a.eval ++ cs.map ι.v) :=
            F2.append (F2.of_map _ fun x _ => hρ x) hcaps
          obtain ⟨⟨fn, hfn, hname, hbody⟩, hcall⟩ := call_sound h hsub hT.or hu hok hargs fun p hp => ⟨(hn p hp).1, (hn p hp).2.1⟩
          intro next Q hnext
          unfold Oper.wp
          have hrun : (execOp a.eval ⟨dst, .call ⟨.value f, args, argTypes⟩, type, pos, after, guard⟩).run P w = .ok (.enter g (args.map a.eval ++ (cs.map ι.v).toArray)) w := by
            have hname' : ¬ fn.name = "runtime.NumGoroutine" := by simpa using hname
            have hbody' : ¬ fn.body = none := by
              intro e
              rw [e] at hbody
              cases hbody
            simp [execOp, resolve, Deferred.ofValue, hv, invoke, callFunc, hfn, hname', hbody']
          rw [hrun, Oper.upon_enter]
          have harr : args.map a.eval ++ (cs.map ι.v).toArray = (args.toList.map a.eval ++ cs.map ι.v).toArray := by
            apply Array.toList_inj.1
            simp
          rw [harr]
          refine Calls.mono hcall ?_
          rintro e w'' ⟨v, ι', rfl, h1, h2, h3⟩
          exact hnext v w'' ι' h1 h2 h3
      · exact hu.elim

/-! ### States, by what is looked up -/
structure SSt where
  tm : List AV
  lk : Nat → Option AO

def St.sem (st : St) : SSt := ⟨st.tm, lku st.ob⟩

def SSt.ev (s : SSt) : Operand → AV
  | .tmp t => s.tm.getD t .undef
  | .const v => ofVal v
  | .func f => .lf (.fn f [])
  | .global _ => .undef

theorem sem_ev (st : St) : st.sem.ev = st.ev := by
  funext x
  cases x <;> rfl

def putT (tm : List AV) (dst : Option Tmp) (v : AV) : List AV :=
  match dst with
  | some d => tm.set d v
  | none => tm

def SSt.app (s : SSt) (p : Oper × Option Upd) : SSt :=
  match p.2 with
  | some u => ⟨putT s.tm p.1.dst u.val, apl u s.lk⟩
  | none => ⟨putT s.tm p.1.dst (.lf .void), s.lk⟩

def St.app1 (st : St) (p : Oper × Option Upd) : St :=
  match p.2 with
  | some u => st.app p.1.dst u
  | none => st.put p.1.dst (.lf .void)

theorem lku_append : ∀ (l m : Objs) (o : Nat), lku (l ++ m) o = match lku l o with | some a => some a | none => lku m o
  | [], _, _ => rfl
  | (k, a) :: r, m, o => by
    simp only [List.cons_append, lku]
    cases Nat.beq k o with
    | true => rfl
    | false => exact lku_append r m o
theorem lku_replO (s : Objs) : ∀ (l : Objs) (o : Nat), lku (replO s l) o = match lku l o with | some a => some (match lku s o with | some b => b | none => a) | none => none
  | [], _ => rfl
  | (k, a) :: r, o => by
    simp only [replO, lku]
    cases hb : Nat.beq k o with
    | true =>
      rw [Nat.eq_of_beq_eq_true hb]
      rfl
    | false => exact lku_replO s r o
theorem lku_deleO (ds : List Nat) : ∀ (l : Objs) (o : Nat), lku (deleO ds l) o = bif ds.any (Nat.beq o) then none else lku l o
  | [], o => by cases h : ds.any (Nat.beq o) <;> simp [deleO, lku]
  | (k, a) :: r, o => by
    have ih := lku_deleO ds r o
    simp only [deleO]
    cases hb : Nat.beq k o with
    | true =>
      have := Nat.eq_of_beq_eq_true hb
      subst this
      cases hd : ds.any (Nat.beq k) with
      | true => rw [hd] at ih; exact ih
      | false => simp [lku, Nat.beq_refl]
    | false =>
      cases hd : ds.any (Nat.beq k) with
      | true => simp only [cond_true, lku, hb, cond_false]; exact ih
      | false => simp only [cond_false, lku, hb]; exact ih

theorem sem_put (st : St) (dst : Option Tmp) (v : AV) : (st.put dst v).sem = ⟨putT st.tm dst v, lku st.ob⟩ := by cases dst <;> rfl

theorem sem_app (st : St) (p : Oper × Option Upd) : (st.app1 p).sem = st.sem.app p := by
  obtain ⟨o, mu⟩ := p
  cases mu with
  | none => exact sem_put st o.dst _
  | some u =>
    show (st.app o.dst u).sem = _
    unfold St.app
    rw [sem_put]
    simp only [SSt.app, St.sem, SSt.mk.injEq, true_and]
    funext q
    rw [lku_append, lku_replO, lku_deleO]
    simp only [apl]
    cases lku u.new q with
    | some a => rfl
    | none =>
      cases u.del.any (Nat.beq q) with
      | true => rfl
      | false => cases lku st.ob q <;> rfl

/-- A number is told of somewhere. -/
def SSt.tells (s : SSt) (n : Nat) : Prop := (∃ v ∈ s.tm, n ∈ v.ids) ∨ (s.lk n).isSome = true ∨ ∃ o a, s.lk o = some a ∧ n ∈ a.ids

theorem fresh_tells {n : Nat} {st : St} (h : fresh n st = true) : ¬ st.sem.tells n := by
  simp only [fresh, Bool.and_eq_true, Bool.not_eq_true', List.any_eq_false, List.all_eq_true] at h
  obtain ⟨h1, h2⟩ := h
  rintro (⟨v, hv, hn⟩ | hs | ⟨o, a, ho, hn⟩)
  · exact h1 v hv (anyBeq.2 hn)
  · obtain ⟨a, ha⟩ := Option.isSome_iff_exists.1 hs
    have := (h2 _ (lku_mem ha)).1
    simp [Nat.beq_refl] at this
  · have := (h2 _ (lku_mem ho)).2
    exact this n hn (Nat.beq_refl n)

theorem ofVal_ids (v : Value) : (ofVal v).ids = [] := by
  have leaf : ∀ v : Value, (ofLeaf v).ids = [] := by
    intro v
    unfold ofLeaf
    split <;> rfl
  cases v
  case agg cs =>
    show (cs.toList.map ofLeaf).flatMap LV.ids = []
    rw [List.flatMap_eq_nil_iff]
    intro x hx
    obtain ⟨y, _, rfl⟩ := List.mem_map.1 hx
    exact leaf y
  all_goals (show (AV.lf (ofLeaf _)).ids = []; simp only [AV.lf, AV.ids, CV.ids]; exact leaf _)

theorem ev_ids {s : SSt} {n : Nat} (h : ¬ s.tells n) (x : Operand) : n ∉ (s.ev x).ids := by
  cases x with
  | tmp t =>
    intro hn
    apply h
    have hn : n ∈ (s.tm.getD t AV.undef).ids := hn
    rw [List.getD_eq_getElem?_getD] at hn
    cases hv : s.tm[t]? with
    | none => rw [hv] at hn; cases hn
    | some v => rw [hv] at hn; exact .inl ⟨v, List.mem_of_getElem? hv, hn⟩
  | const v => show n ∉ (ofVal v).ids; rw [ofVal_ids]; simp
  | func f => show n ∉ (AV.lf (.fn f [])).ids; simp [AV.lf, AV.ids, CV.ids, LV.ids]
  | global g => show n ∉ AV.undef.ids; simp [AV.undef, AV.ids, CV.ids, LV.ids]

structure Rel (E : Ctx) (s : SSt) (ι : Im) (a : Act) (w : World) : Prop where
  inv : Inv E s.lk ι w
  tm : F2 (ARel E (sgOf s.lk) ι) s.tm a.tmps.toList
  df : a.defers = []

theorem Rel.ev {s : SSt} {a : Act} (h : Rel E s ι a w) (x : Operand) : ARel E (sgOf s.lk) ι (s.ev x) (a.eval x) := by
  cases x with
  | tmp t =>
    show ARel E _ ι (s.tm.getD t AV.undef) (a.tmps.getD t Go.undef)
    rw [List.getD_eq_getElem?_getD]
    cases hv : s.tm[t]? with
    | none => exact trivial
    | some v =>
      obtain ⟨y, hy, hr⟩ := h.tm.get hv
      have hy : a.tmps[t]? = some y := by simpa using hy
      rw [Array.getD_eq_getD_getElem?, hy]
      exact hr
  | const v => exact ofVal_rel _ v
  | func f =>
    intro _
    rfl
  | global g => exact trivial

theorem put_rel {sg : Nat → Option Sig} {tm : List AV} {a : Act} (h : F2 (ARel E sg ι) tm a.tmps.toList) (dst : Option Tmp) {x : AV} {v : Value} (hv : ARel E sg ι x v) : F2 (ARel E sg ι) (putT tm dst x) (a.put dst v).tmps.toList := by
  cases dst with
  | none => exact h
  | some d =>
    have := h.set d hv
    simpa [Act.put, putT] using this

theorem put_df {a : Act} (dst : Option Tmp) (v : Value) : (a.put dst v).defers = a.defers := by cases dst <;> rfl

def Keep (np : Nat) (lk lk' : Nat → Option AO) (ι ι' : Im) : Prop := ∀ o, o < np → Fits (sgOf lk) (sgOf lk') ι ι' o

theorem Keep.refl (np : Nat) : Keep np lk lk ι ι := fun o _ => Fits.refl o
theorem Keep.trans {np : Nat} {lk1 lk2 lk3 : Nat → Option AO} {ι1 ι2 ι3 : Im} (h : Keep np lk1 lk2 ι1 ι2) (h' : Keep np lk2 lk3 ι2 ι3) : Keep np lk1 lk3 ι1 ι3 := by
  intro o ho
  rcases h' o ho with h1 | ⟨h1, h2, h3⟩
  · exact .inl h1
  · rcases h o ho with k1 | ⟨k1, k2, k3⟩
    · exact .inl (h1.trans k1)
    · exact .inr ⟨h1.trans k1, h2.trans k2, fun i => (h3 i).trans (k3 i)⟩

/-- What makes an update's new numbers new. -/
def NewOk (u : Upd) (s : SSt) : Prop := u.ok = true ∧ ∀ p ∈ u.new, 64 ≤ p.1 ∧ ¬ s.tells p.1

theorem fits_new {u : Upd} {st : St} (h : u.fits st = true) : NewOk u st.sem := by
  simp only [Upd.fits, Bool.and_eq_true, List.all_eq_true] at h
  exact ⟨h.1.1.1, fun p hp => ⟨Nat.le_of_ble_eq_true (h.1.1.2 p hp).1, fresh_tells (h.1.1.2 p hp).2⟩⟩

/-- One operation, done. -/
theorem Rel.run (hT : EnvOk P T) {s : SSt} {a : Act} (h : Rel E s ι a w) (hsub : ∀ o a, lk0 o = some a → s.lk o = some a) {o : Oper} {u : Upd} (hu : (evCore T s.ev lk0 o).gives u) (hn : NewOk u s) {np : Nat} (hnp : np ≤ 64)
    {next : Act → World → Prop} {Q : Exit → Act → World → Prop} (hnext : ∀ a' w' ι', Rel E (s.app (o, some u)) ι' a' w' → Keep np s.lk (s.app (o, some u)).lk ι ι' → next a' w') : o.wp P a w next Q := by
  have hnew : ∀ p ∈ u.new, s.lk p.1 = none ∧ (∀ q b, s.lk q = some b → p.1 ∉ b.ids) ∧ ∀ x, p.1 ∉ (s.ev x).ids := by
    intro p hp
    have ht := (hn.2 p hp).2
    refine ⟨?_, fun q b hq hm => ht (.inr (.inr ⟨q, b, hq, hm⟩)), fun x => ev_ids ht x⟩
    cases hl : s.lk p.1 with
    | none => rfl
    | some b => exact absurd (.inr (.inl (by rw [hl]; rfl))) ht
  refine op_ok hT h.inv hsub h.ev hu hn.1 hnew next Q ?_
  intro v w' ι' hi hv hf
  refine hnext _ _ ι' ⟨hi, ?_, by rw [put_df]; exact h.df⟩ ?_
  · refine put_rel (h.tm.imp fun x y hx _ hr => hr.mono fun p hp => hf p ?_) o.dst hv
    cases hl : lku u.new p with
    | none => rfl
    | some b => exact absurd (.inl ⟨x, hx, hp⟩) (hn.2 _ (lku_mem hl)).2
  · intro q hq
    refine hf q ?_
    cases hl : lku u.new q with
    | none => rfl
    | some b => have := (hn.2 _ (lku_mem hl)).1; dsimp only at this; omega

/-- One operation, passed over. -/
theorem Rel.skip {s : SSt} {a : Act} (h : Rel E s ι a w) (o : Oper) : Rel E (s.app (o, none)) ι (a.put o.dst Go.undef) w :=
  ⟨h.inv, put_rel h.tm o.dst (show ARel E _ ι (.lf .void) Go.undef from rfl), by rw [put_df]; exact h.df⟩
end

end Go.Proofs.Ytiooamodldgalaa.Abs
