/-
Regions: in the order that is listed, and in any order that the machine may draw.
-/
import Derived.Test.YtiooamodldgalaaAbs24
namespace Go.Proofs.Ytiooamodldgalaa.Abs
open Go

/-- One operation, what it came to (none: passed over), and its log. -/
structure Ent where
  o : Oper
  mu : Option Upd
  l : Lg

def Lg.none : Lg := ⟨[], [], [], []⟩

def wantsS (ops : List Oper) (o : Oper) (tm : List AV) : Option Bool :=
  match o.guard with
  | .none => some true
  | some (g, want) => match gdst ops g with
    | some d => match tm.getD d .undef with
      | .c (.leaf (.bool b)) => some (b == want)
      | .c (.leaf .void) => some false
      | _ => .none
    | .none => .none

inductive Trace (T : Env) (lim : Bool) (ops : List Oper) : List Ent → St → St → Prop where
  | nil {st : St} : Trace T lim ops [] st st
  | run {o : Oper} {u : Upd} {es : List Ent} {st st' : St} : wantsS ops o st.tm = some true → (ev T lim o st).gives u → u.fits st = true → Trace T lim ops es (st.app o.dst u) st' → Trace T lim ops (⟨o, some u, lgOf st o u⟩ :: es) st st'
  | touch {o : Oper} {es : List Ent} {st st1 st' : St} : lim = false → o.guard = none → Abs.touch T o st = some st1 → Trace T lim ops es st1 st' → Trace T lim ops (⟨o, none, Lg.none⟩ :: es) st st'
  | skip {o : Oper} {es : List Ent} {st st' : St} : wantsS ops o st.tm = some false → Trace T lim ops es (st.put o.dst (.lf .void)) st' → Trace T lim ops (⟨o, none, Lg.none⟩ :: es) st st'

section
variable {E : Ctx} {lk lk0 : Nat → Option AO} {ι : Im} {w w' : World} {P : Program} {T : Env}

theorem run_some {α R : Type} {r : Res α} {k : α → Option R} {x : R} (h : r.run k = some x) : ∃ u, r.gives u ∧ k u = some x := by
  cases r with
  | stuck => cases h
  | ok a => exact ⟨a, rfl, h⟩
  | chk c d a =>
    have h : @ite _ c d (k a) none = some x := h
    by_cases hc : c
    · rw [if_pos hc] at h
      exact ⟨a, ⟨hc, rfl⟩, h⟩
    · rw [if_neg hc] at h
      cases h
  | go X g f =>
    obtain ⟨y, hg, hk⟩ := Option.bind_eq_some_iff.1 h
    exact ⟨f y, ⟨y, hg, rfl⟩, hk⟩

theorem bif_some {R : Type} {b : Bool} {k : Option R} {x : R} (h : (bif b then k else none) = some x) : b = true ∧ k = some x := by
  cases b with
  | true => exact ⟨rfl, h⟩
  | false => cases h

theorem put_known {st : St} {d : Tmp} {x : AV} (h : st.tm.getD d .undef = x) (hx : x ≠ .undef) : st.put (some d) x = st := by
  have h0 : st.tm[d]? = some x := by
    rw [List.getD_eq_getElem?_getD] at h
    cases hv : st.tm[d]? with
    | none => rw [hv] at h; exact absurd h.symm hx
    | some y => rw [hv] at h; exact congrArg some h
  have : st.tm.set d x = st.tm := by
    obtain ⟨hlt, hget⟩ := List.getElem?_eq_some_iff.1 h0
    rw [← hget, List.set_getElem_self]
  show ({ st with tm := st.tm.set d x } : St) = st
  rw [this]

theorem evOps_trace {R : Type} {lim : Bool} {ops : List Oper} {K : List Lg → St → Option R} {r : R} : ∀ {os : List Oper} {lg : List Lg} {st : St}, evOps T lim ops os lg st K = some r →
    ∃ es st', Trace T lim ops es st st' ∧ es.map (·.o) = os ∧ K ((es.map (·.l)).reverse ++ lg) st' = some r
  | [], lg, st, h => ⟨[], st, .nil, rfl, h⟩
  | o :: os, lg, st, h => by
    have runs : (wantsS ops o st.tm = some true) → ((ev T lim o st).run fun u => bif u.fits st then evOps T lim ops os (lgOf st o u :: lg) (st.app o.dst u) K else none) = some r →
        ∃ es st', Trace T lim ops es st st' ∧ es.map (·.o) = o :: os ∧ K ((es.map (·.l)).reverse ++ lg) st' = some r := by
      intro hw h
      obtain ⟨u, hu, h⟩ := run_some h
      obtain ⟨hf, h⟩ := bif_some h
      obtain ⟨es, st', ht, ho, hk⟩ := evOps_trace h
      exact ⟨_ :: es, st', .run hw hu hf ht, by simp [ho], by simpa using hk⟩
    have skips : (wantsS ops o st.tm = some false) → evOps T lim ops os (⟨[], [], [], []⟩ :: lg) (st.put o.dst (.lf .void)) K = some r →
        ∃ es st', Trace T lim ops es st st' ∧ es.map (·.o) = o :: os ∧ K ((es.map (·.l)).reverse ++ lg) st' = some r := by
      intro hw h
      obtain ⟨es, st', ht, ho, hk⟩ := evOps_trace h
      exact ⟨_ :: es, st', .skip hw ht, by simp [ho], by simpa [Lg.none] using hk⟩
    unfold evOps at h
    split at h
    · rename_i hg
      split at h
      · rename_i st1 htt
        cases lim with
        | true => cases htt
        | false =>
          obtain ⟨es, st', ht, ho, hk⟩ := evOps_trace h
          exact ⟨_ :: es, st', .touch rfl hg htt ht, by simp [ho], by simpa [Lg.none] using hk⟩
      · exact runs (by simp [wantsS, hg]) h
    · rename_i g want hg
      split at h
      · rename_i d hd
        split at h
        · rename_i b hb
          have hne : AV.c (CV.leaf (LV.bool b)) ≠ .undef := by intro e; cases e
          have hput := put_known hb hne
          have hw : wantsS ops o st.tm = some (b == want) := by simp only [wantsS, hg, hd, hb]
          dsimp only at h
          cases b with
          | true =>
            have e : st.put (some d) (.lf (.bool true)) = st := hput
            rw [if_pos rfl, e] at h
            cases want with
            | true => exact runs hw h
            | false => exact skips hw h
          | false =>
            have e : st.put (some d) (.lf (.bool false)) = st := hput
            rw [if_neg (by simp), e] at h
            cases want with
            | true => exact skips hw h
            | false => exact runs hw h
        · rename_i hb
          exact skips (by simp only [wantsS, hg, hd, hb]) h
        · cases h
      · cases h

theorem gdst_eq (ops : Array Oper) (g : Nat) : gdst ops.toList g = (ops[g]?).bind (·.dst) := by
  unfold gdst
  rw [Array.getElem?_toList]
  cases ops[g]? <;> rfl

theorem wants_eq {sg : Nat → Option Sig} {ops : Array Oper} {o : Oper} {tm : List AV} {a : Act} (h : F2 (ARel E sg ι) tm a.tmps.toList) {b : Bool} (hw : wantsS ops.toList o tm = some b) : Region.wanted o (yielded ops a.tmps) = b := by
  unfold wantsS at hw
  unfold Region.wanted
  split at hw
  · rename_i hg
    rw [hg]
    injection hw
  · rename_i g want hg
    rw [hg]
    dsimp only
    unfold yielded
    rw [gdst_eq] at hw
    split at hw
    · rename_i d hd
      rw [hd]
      have look : ∀ x, tm.getD d .undef = x → x ≠ AV.undef → ∃ v, a.tmps[d]? = some v ∧ ARel E sg ι x v := by
        intro x hx hne
        rw [List.getD_eq_getElem?_getD] at hx
        cases hv : tm[d]? with
        | none => rw [hv] at hx; exact absurd hx.symm hne
        | some y =>
          rw [hv] at hx
          have hx : y = x := hx
          subst hx
          obtain ⟨v, h1, h2⟩ := h.get hv
          exact ⟨v, by simpa using h1, h2⟩
      split at hw
      · rename_i c hc
        obtain ⟨v, hv, hr⟩ := look _ hc (by intro e; cases e)
        have hr : v = .bool c := hr
        subst hr
        injection hw with hw
        simp only [Option.bind_some, hv]
        rw [← hw]
        cases c <;> cases want <;> rfl
      · rename_i hc
        obtain ⟨v, hv, hr⟩ := look _ hc (by intro e; cases e)
        have hr : v = Go.undef := hr
        subst hr
        injection hw with hw
        simp only [Option.bind_some, hv]
        rw [← hw]
        rfl
      · cases hw
    · cases hw

theorem ev_plain {o : Oper} {st : St} {u : Upd} (h : (ev T false o st).gives u) : (evCore T st.sem.ev st.sem.lk o).gives u := by
  rw [sem_ev]
  exact h

theorem seq_sound (hT : EnvOk P T) {np : Nat} (hnp : np ≤ 64) (hnt : np ≤ T.np) {ops : Array Oper} {Q : Exit → Act → World → Prop} {es : List Ent} {st st' : St} (ht : Trace T false ops.toList es st st') :
    ∀ (i : Nat), (∀ j, (es[j]?).map (·.o) = if j < es.length then ops[i + j]? else none) → ∀ (ι : Im) (a : Act) (w : World), Rel E st.sem ι a w →
      (∀ ι' a' w', Rel E st'.sem ι' a' w' → Keep np st.sem.lk st'.sem.lk ι ι' → Q .normal a' w') → wpOps P ops Q (List.range' i es.length) a w := by
  induction ht with
  | nil =>
    intro i _ ι a w hr hq
    exact hq ι a w hr (Keep.refl np)
  | run hw hu hf _ ih =>
    rename_i o u es st st' _
    intro i hi ι a w hr hq
    have ho : ops[i]? = some o := by
      have := hi 0
      simpa using this.symm
    have hwa := wants_eq hr.tm hw
    show wpOps P ops Q (i :: List.range' (i + 1) es.length) a w
    rw [wpOps_cons]
    unfold wpOp
    rw [ho]
    dsimp only
    rw [hwa, if_pos rfl]
    refine .inl (hr.run hT (fun _ _ h => h) (ev_plain hu) (fits_new hf) hnp fun a' w' ι' hr' hk => ?_)
    have e := sem_app st (o, some u)
    rw [← e] at hr' hk
    refine ih (i + 1) (fun j => ?_) ι' a' w' hr' fun ι'' a'' w'' hr'' hk' => hq ι'' a'' w'' hr'' (hk.trans hk')
    have := hi (j + 1)
    rw [show i + 1 + j = i + (j + 1) by omega]
    simpa using this
  | touch _ hg ht1 _ ih =>
    rename_i o es st st1 st' _ _
    intro i hi ι a w hr hq
    have ho : ops[i]? = some o := by
      have := hi 0
      simpa using this.symm
    have hwa : Region.wanted o (yielded ops a.tmps) = true := by simp [Region.wanted, hg]
    show wpOps P ops Q (i :: List.range' (i + 1) es.length) a w
    rw [wpOps_cons]
    unfold wpOp
    rw [ho]
    dsimp only
    rw [hwa, if_pos rfl]
    refine .inl (touch_sound hT hr ht1 fun a' w' ι' hr' hk => ?_)
    refine ih (i + 1) (fun j => ?_) ι' a' w' hr' fun ι'' a'' w'' hr'' hk' => hq ι'' a'' w'' hr'' (Keep.trans (fun p hp => hk p (by omega)) hk')
    have := hi (j + 1)
    rw [show i + 1 + j = i + (j + 1) by omega]
    simpa using this
  | skip hw _ ih =>
    rename_i o es st st' _
    intro i hi ι a w hr hq
    have ho : ops[i]? = some o := by
      have := hi 0
      simpa using this.symm
    have hwa := wants_eq hr.tm hw
    show wpOps P ops Q (i :: List.range' (i + 1) es.length) a w
    rw [wpOps_cons]
    unfold wpOp
    rw [ho]
    dsimp only
    rw [hwa, if_neg (by simp)]
    have hr' := hr.skip o
    have e := sem_app st (o, none)
    have e2 : (st.app1 (o, none)).sem.lk = st.sem.lk := by rw [e]; rfl
    rw [← e] at hr'
    refine ih (i + 1) (fun j => ?_) ι _ w hr' fun ι'' a'' w'' hr'' hk' => hq ι'' a'' w'' hr'' ?_
    · have := hi (j + 1)
      rw [show i + 1 + j = i + (j + 1) by omega]
      simpa using this
    · have hk' : Keep np (st.app1 (o, none)).sem.lk _ ι ι'' := hk'
      rw [e2] at hk'
      exact hk'

theorem seq_region (hT : EnvOk P T) {np : Nat} (hnp : np ≤ 64) (hnt : np ≤ T.np) {ops : Array Oper} {Q : Exit → Act → World → Prop} {es : List Ent} {st st' : St} (ht : Trace T false ops.toList es st st') (he : es.map (·.o) = ops.toList) {a : Act} (hr : Rel E st.sem ι a w) {id : Nat}
    (hq : ∀ ι' a' w', Rel E st'.sem ι' a' w' → Keep np st.sem.lk st'.sem.lk ι ι' → Q .normal a' w') : (Code.region id ops false).wp P Q a w := by
  have hlen : es.length = ops.size := by
    have := congrArg List.length he
    simpa using this
  refine wp_region ?_
  rw [List.range_eq_range', ← hlen]
  refine seq_sound hT hnp hnt ht 0 (fun j => ?_) ι a w hr hq
  rw [Nat.zero_add]
  split
  · rw [← Array.getElem?_toList, ← he, List.getElem?_map]
  · rw [List.getElem?_eq_none (by omega)]; rfl
end

end Go.Proofs.Ytiooamodldgalaa.Abs
