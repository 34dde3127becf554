/-
Regions whose order is drawn: any order that the machine may draw comes to what the listed order comes to.
-/
import Derived.Test.YtiooamodldgalaaAbs18
namespace Go.Proofs.Ytiooamodldgalaa.Abs
open Go

section
variable {E : Ctx} {lk lk0 : Nat → Option AO} {ι : Im} {w w' : World} {P : Program} {T : Env}

def Upd.wr (u : Upd) : List Nat := u.set.map (·.1) ++ u.del ++ u.new.map (·.1)
def Upd.vi (u : Upd) : List Nat := u.new.map (·.1) ++ u.val.ids ++ u.set.flatMap (fun p => p.2.ids) ++ u.new.flatMap (fun p => p.2.ids)
def Ent.wr (e : Ent) : List Nat := match e.mu with | some u => u.wr | none => []
def Ent.vi (e : Ent) : List Nat := match e.mu with | some u => u.vi | none => []

/-- The state after those of the listed that are in D. -/
def F (D : Nat → Bool) : Nat → List Ent → SSt → SSt
  | _, [], s => s
  | k, e :: r, s => F D (k + 1) r (bif D k then s.app (e.o, e.mu) else s)

theorem F_none {D : Nat → Bool} : ∀ {k : Nat} {es : List Ent} {s : SSt}, (∀ j, k ≤ j → D j = false) → F D k es s = s
  | _, [], _, _ => rfl
  | k, e :: r, s, h => by
    simp only [F, h k (Nat.le_refl _), cond_false]
    exact F_none fun j hj => h j (by omega)

theorem F_congr {D D' : Nat → Bool} : ∀ {k : Nat} {es : List Ent} {s : SSt}, (∀ j, k ≤ j → j < k + es.length → D j = D' j) → F D k es s = F D' k es s
  | _, [], _, _ => rfl
  | k, e :: r, s, h => by
    simp only [F, h k (Nat.le_refl _) (by simp)]
    exact F_congr fun j hj hlt => h j (by omega) (by simp; omega)

/-! ### Places: what is told at them -/
theorem apl_not {u : Upd} {o : Nat} (h : o ∉ u.wr) (lk : Nat → Option AO) : apl u lk o = lk o := by
  simp only [Upd.wr, List.mem_append, not_or] at h
  obtain ⟨⟨h1, h2⟩, h3⟩ := h
  have e1 : lku u.new o = none := lku_none fun p hp e => h3 (List.mem_map.2 ⟨p, hp, e⟩)
  have e2 : lku u.set o = none := lku_none fun p hp e => h1 (List.mem_map.2 ⟨p, hp, e⟩)
  simp only [apl, e1, e2, anyBeqF.2 h2, cond_false]
  cases lk o <;> rfl
theorem apl_congr {u : Upd} {o : Nat} {lk lk' : Nat → Option AO} (h : lk o = lk' o) : apl u lk o = apl u lk' o := by simp only [apl, h]

theorem app_lk_not {s : SSt} {e : Ent} {o : Nat} (h : o ∉ e.wr) : (s.app (e.o, e.mu)).lk o = s.lk o := by
  obtain ⟨oo, mu, l⟩ := e
  cases mu with
  | none => rfl
  | some u => exact apl_not h _
theorem app_lk_congr {s s' : SSt} {e : Ent} {o : Nat} (h : s.lk o = s'.lk o) : (s.app (e.o, e.mu)).lk o = (s'.app (e.o, e.mu)).lk o := by
  obtain ⟨oo, mu, l⟩ := e
  cases mu with
  | none => exact h
  | some u => exact apl_congr h
theorem app_tm (s : SSt) (p : Oper × Option Upd) : (s.app p).tm = putT s.tm p.1.dst (match p.2 with | some u => u.val | none => .lf .void) := by
  obtain ⟨o, mu⟩ := p
  cases mu <;> rfl
theorem putT_len (tm : List AV) (dst : Option Tmp) (v : AV) : (putT tm dst v).length = tm.length := by cases dst <;> simp [putT]
theorem putT_not {tm : List AV} {dst : Option Tmp} {t : Tmp} (h : dst ≠ some t) (v d : AV) : (putT tm dst v).getD t d = tm.getD t d := by
  cases dst with
  | none => rfl
  | some q =>
    have : q ≠ t := fun e => h (by rw [e])
    simp [putT, List.getD_eq_getElem?_getD, List.getElem?_set_ne this]
theorem putT_congr {tm tm' : List AV} (hl : tm.length = tm'.length) {dst : Option Tmp} {t : Tmp} {v d : AV} (h : tm.getD t d = tm'.getD t d) : (putT tm dst v).getD t d = (putT tm' dst v).getD t d := by
  cases dst with
  | none => exact h
  | some q =>
    by_cases hq : q = t
    · subst hq
      simp only [putT, List.getD_eq_getElem?_getD, List.getElem?_set, hl]
      simp
    · have e1 := putT_not (tm := tm) (dst := some q) (t := t) (fun e => hq (by injection e)) v d
      have e2 := putT_not (tm := tm') (dst := some q) (t := t) (fun e => hq (by injection e)) v d
      rw [e1, e2, h]

theorem F_lk {D D' : Nat → Bool} {o : Nat} : ∀ {k : Nat} {es : List Ent} {s s' : SSt}, (∀ j e, es[j]? = some e → o ∈ e.wr → D (k + j) = D' (k + j)) → s.lk o = s'.lk o → (F D k es s).lk o = (F D' k es s').lk o
  | _, [], _, _, _, h => h
  | k, e :: r, s, s', hd, h => by
    simp only [F]
    refine F_lk (fun j x hx hm => ?_) ?_
    · have := hd (j + 1) x (by simpa using hx) hm
      rwa [show k + (j + 1) = k + 1 + j by omega] at this
    · by_cases hm : o ∈ e.wr
      · have := hd 0 e (by simp) hm
        rw [Nat.add_zero] at this
        rw [this]
        cases D' k with
        | true => exact app_lk_congr h
        | false => exact h
      · have a1 : (bif D k then s.app (e.o, e.mu) else s).lk o = s.lk o := by
          cases D k with
          | true => exact app_lk_not hm
          | false => rfl
        have a2 : (bif D' k then s'.app (e.o, e.mu) else s').lk o = s'.lk o := by
          cases D' k with
          | true => exact app_lk_not hm
          | false => rfl
        rw [a1, a2, h]

theorem F_tm {D D' : Nat → Bool} {t : Tmp} {d : AV} : ∀ {k : Nat} {es : List Ent} {s s' : SSt}, (∀ j e, es[j]? = some e → e.o.dst = some t → D (k + j) = D' (k + j)) → s.tm.length = s'.tm.length → s.tm.getD t d = s'.tm.getD t d → (F D k es s).tm.getD t d = (F D' k es s').tm.getD t d
  | _, [], _, _, _, _, h => h
  | k, e :: r, s, s', hd, hl, h => by
    simp only [F]
    have len : ∀ (b : Bool) (s : SSt), (bif b then s.app (e.o, e.mu) else s).tm.length = s.tm.length := by
      intro b s
      cases b with
      | true => simp only [cond_true, app_tm, putT_len]
      | false => rfl
    refine F_tm (fun j x hx hm => ?_) (by rw [len, len, hl]) ?_
    · have := hd (j + 1) x (by simpa using hx) hm
      rwa [show k + (j + 1) = k + 1 + j by omega] at this
    · by_cases hm : e.o.dst = some t
      · have := hd 0 e (by simp) hm
        rw [Nat.add_zero] at this
        rw [this]
        cases D' k with
        | true =>
          simp only [cond_true, app_tm]
          exact putT_congr hl h
        | false => exact h
      · have a1 : ∀ (b : Bool) (s : SSt), (bif b then s.app (e.o, e.mu) else s).tm.getD t d = s.tm.getD t d := by
          intro b s
          cases b with
          | true =>
            simp only [cond_true, app_tm]
            exact putT_not hm _ _
          | false => rfl
        rw [a1, a1, h]

/-! ### Operations apart change places -/
def Comm (e e' : Ent) : Prop := (∀ d, e.o.dst = some d → e'.o.dst ≠ some d) ∧ ∀ o, o ∈ e.wr → o ∉ e'.wr

theorem putT_comm (tm : List AV) {x y : Option Tmp} (v u : AV) (h : ∀ d, x = some d → y ≠ some d) : putT (putT tm x v) y u = putT (putT tm y u) x v := by
  cases x with
  | none => rfl
  | some d =>
    cases y with
    | none => rfl
    | some q =>
      have : d ≠ q := fun e => h d rfl (by rw [e])
      exact List.set_comm _ _ this

theorem app_comm {e e' : Ent} (h : Comm e e') (s : SSt) : (s.app (e.o, e.mu)).app (e'.o, e'.mu) = (s.app (e'.o, e'.mu)).app (e.o, e.mu) := by
  have h1 : ((s.app (e.o, e.mu)).app (e'.o, e'.mu)).tm = ((s.app (e'.o, e'.mu)).app (e.o, e.mu)).tm := by
    simp only [app_tm]
    exact putT_comm _ _ _ h.1
  have h2 : ((s.app (e.o, e.mu)).app (e'.o, e'.mu)).lk = ((s.app (e'.o, e'.mu)).app (e.o, e.mu)).lk := by
    funext o
    by_cases hm : o ∈ e.wr
    · have hm' := h.2 o hm
      rw [app_lk_not hm']
      exact app_lk_congr (app_lk_not hm').symm
    · rw [app_lk_not (s := s.app (e'.o, e'.mu)) hm]
      exact app_lk_congr (app_lk_not hm)
  generalize (s.app (e.o, e.mu)).app (e'.o, e'.mu) = a at *
  generalize (s.app (e'.o, e'.mu)).app (e.o, e.mu) = b at *
  cases a; cases b
  simp only [SSt.mk.injEq]
  exact ⟨h1, h2⟩

theorem F_app {D : Nat → Bool} {e : Ent} : ∀ {k : Nat} {es : List Ent} {s : SSt}, (∀ j e', es[j]? = some e' → D (k + j) = true → Comm e e') → F D k es (s.app (e.o, e.mu)) = (F D k es s).app (e.o, e.mu)
  | _, [], _, _ => rfl
  | k, x :: r, s, h => by
    simp only [F]
    have hr : ∀ j e', r[j]? = some e' → D (k + 1 + j) = true → Comm e e' := fun j e' hj hd => h (j + 1) e' (by simpa using hj) (by rw [show k + (j + 1) = k + 1 + j by omega]; exact hd)
    cases hd : D k with
    | true =>
      have hc := h 0 x (by simp) hd
      simp only [cond_true]
      rw [app_comm hc]
      exact F_app hr
    | false =>
      simp only [cond_false]
      exact F_app hr

theorem F_add {D D' : Nat → Bool} {i : Nat} {e : Ent} (hD : ∀ j, j ≠ i → D' j = D j) (hi : D i = false) (hi' : D' i = true) : ∀ {k : Nat} {es : List Ent} {s : SSt}, k ≤ i → es[i - k]? = some e →
    (∀ j e', es[j]? = some e' → i < k + j → D (k + j) = true → Comm e e') → F D' k es s = (F D k es s).app (e.o, e.mu)
  | k, [], s, _, he, _ => by simp at he
  | k, x :: r, s, hk, he, h => by
    simp only [F]
    rcases Nat.lt_or_ge k i with hlt | hge
    · rw [hD k (by omega)]
      refine F_add hD hi hi' (k := k + 1) (by omega) ?_ fun j e' hj hlt' hd => h (j + 1) e' (by simpa using hj) (by omega) (by rw [show k + (j + 1) = k + 1 + j by omega]; exact hd)
      rw [show i - k = (i - (k + 1)) + 1 by omega] at he
      simpa using he
    · have : k = i := by omega
      subst this
      have hx : x = e := by simpa using he
      subst hx
      rw [hi, hi']
      simp only [cond_true, cond_false]
      rw [F_congr (D := D') (D' := D) fun j hj _ => hD j (by omega)]
      exact F_app fun j e' hj hd => h (j + 1) e' (by simpa using hj) (by omega) (by rw [show k + (j + 1) = k + 1 + j by omega]; exact hd)

/-! ### What is told of -/
theorem app_tells {s : SSt} {e : Ent} {n : Nat} (h : (s.app (e.o, e.mu)).tells n) : s.tells n ∨ n ∈ e.vi := by
  obtain ⟨o, mu, l⟩ := e
  cases mu with
  | none =>
    rcases h with ⟨v, hv, hn⟩ | h
    · have hv : v ∈ putT s.tm o.dst (.lf .void) := hv
      have : v ∈ s.tm ∨ v = .lf .void := by
        cases hd : o.dst with
        | none => rw [hd] at hv; exact .inl hv
        | some d => rw [hd] at hv; exact List.mem_or_eq_of_mem_set hv
      rcases this with hv | rfl
      · exact .inl (.inl ⟨v, hv, hn⟩)
      · simp [AV.lf, AV.ids, CV.ids, LV.ids] at hn
    · exact .inl (.inr h)
  | some u =>
    show s.tells n ∨ n ∈ u.vi
    simp only [Upd.vi, List.mem_append]
    rcases h with ⟨v, hv, hn⟩ | h | ⟨q, a, hq, hn⟩
    · have hv : v ∈ putT s.tm o.dst u.val := hv
      have : v ∈ s.tm ∨ v = u.val := by
        cases hd : o.dst with
        | none => rw [hd] at hv; exact .inl hv
        | some d => rw [hd] at hv; exact List.mem_or_eq_of_mem_set hv
      rcases this with hv | rfl
      · exact .inl (.inl ⟨v, hv, hn⟩)
      · exact .inr (.inl (.inl (.inr hn)))
    · have h : (apl u s.lk n).isSome = true := h
      cases hl : lku u.new n with
      | some a => exact .inr (.inl (.inl (.inl (List.mem_map.2 ⟨_, lku_mem hl, rfl⟩))))
      | none =>
        refine .inl (.inr (.inl ?_))
        simp only [apl, hl] at h
        cases hs : s.lk n with
        | some b => rfl
        | none =>
          rw [hs] at h
          cases hd : u.del.any (Nat.beq n) <;> (rw [hd] at h; cases h)
    · have hq : apl u s.lk q = some a := hq
      cases hl : lku u.new q with
      | some b =>
        simp only [apl, hl] at hq
        injection hq with hq
        subst hq
        exact .inr (.inr (List.mem_flatMap.2 ⟨_, lku_mem hl, hn⟩))
      | none =>
        simp only [apl, hl] at hq
        cases hd : u.del.any (Nat.beq q) with
        | true => rw [hd] at hq; cases hq
        | false =>
          rw [hd] at hq
          simp only [cond_false] at hq
          cases hs : s.lk q with
          | none => rw [hs] at hq; cases hq
          | some c =>
            rw [hs] at hq
            simp only at hq
            cases hset : lku u.set q with
            | some b =>
              rw [hset] at hq
              injection hq with hq
              subst hq
              exact .inr (.inl (.inr (List.mem_flatMap.2 ⟨_, lku_mem hset, hn⟩)))
            | none =>
              rw [hset] at hq
              injection hq with hq
              subst hq
              exact .inl (.inr (.inr ⟨q, c, hs, hn⟩))

theorem F_tells {D : Nat → Bool} {n : Nat} : ∀ {k : Nat} {es : List Ent} {s : SSt}, (F D k es s).tells n → s.tells n ∨ ∃ j e, es[j]? = some e ∧ D (k + j) = true ∧ n ∈ e.vi
  | _, [], _, h => .inl h
  | k, e :: r, s, h => by
    simp only [F] at h
    rcases F_tells h with h1 | ⟨j, x, hj, hd, hn⟩
    · cases hd : D k with
      | false =>
        rw [hd] at h1
        exact .inl h1
      | true =>
        rw [hd] at h1
        rcases app_tells h1 with h2 | h2
        · exact .inl h2
        · exact .inr ⟨0, e, by simp, by simpa using hd, h2⟩
    · exact .inr ⟨j + 1, x, by simpa using hj, by rw [show k + (j + 1) = k + 1 + j by omega]; exact hd, hn⟩

/-! ### What the trace says of each operation -/
theorem Trace.at {lim : Bool} (hlim : lim = true) {ops : List Oper} {es : List Ent} {st st' : St} (ht : Trace T lim ops es st st') : ∀ {k i : Nat} {e : Ent}, es[i]? = some e →
    ∃ sti : St, sti.sem = F (fun j => Nat.blt j (k + i)) k es st.sem ∧ wantsS ops e.o sti.tm = some e.mu.isSome ∧ (∀ u, e.mu = some u → (ev T lim e.o sti).gives u ∧ u.fits sti = true ∧ e.l = lgOf sti e.o u) ∧ (e.mu = none → e.l = Lg.none) := by
  induction ht with
  | nil => intro k i e h; simp at h
  | touch hl => rw [hlim] at hl; cases hl
  | run hw hu hf _ ih =>
    rename_i o u es st st' _
    intro k i e he
    cases i with
    | zero =>
      have he : (⟨o, some u, lgOf st o u⟩ : Ent) = e := by simpa using he
      subst he
      refine ⟨st, ?_, hw, fun u' hu' => ?_, fun h => by cases h⟩
      · rw [F_none]
        intro j hj
        cases hb : Nat.blt j (k + 0) with
        | false => rfl
        | true => have := blt_iff.1 hb; omega
      · injection hu' with hu'
        subst hu'
        exact ⟨hu, hf, rfl⟩
    | succ i =>
      obtain ⟨sti, h1, h2, h3, h4⟩ := ih (k := k + 1) (i := i) (e := e) (by simpa using he)
      refine ⟨sti, ?_, h2, h3, h4⟩
      rw [h1]
      have hk : Nat.blt k (k + (i + 1)) = true := blt_iff.2 (by omega)
      simp only [F, hk, cond_true]
      have e := sem_app st (o, some u)
      have e2 : (st.app o.dst u).sem = st.sem.app (o, some u) := e
      rw [e2, show k + 1 + i = k + (i + 1) by omega]
  | skip hw _ ih =>
    rename_i o es st st' _
    intro k i e he
    cases i with
    | zero =>
      have he : (⟨o, none, Lg.none⟩ : Ent) = e := by simpa using he
      subst he
      refine ⟨st, ?_, hw, fun u' hu' => by (have hu' : none = some u' := hu'; cases hu'), fun _ => rfl⟩
      rw [F_none]
      intro j hj
      cases hb : Nat.blt j (k + 0) with
      | false => rfl
      | true => have := blt_iff.1 hb; omega
    | succ i =>
      obtain ⟨sti, h1, h2, h3, h4⟩ := ih (k := k + 1) (i := i) (e := e) (by simpa using he)
      refine ⟨sti, ?_, h2, h3, h4⟩
      rw [h1]
      have hk : Nat.blt k (k + (i + 1)) = true := blt_iff.2 (by omega)
      simp only [F, hk, cond_true]
      have e := sem_app st (o, none)
      have e2 : (st.put o.dst (.lf .void)).sem = st.sem.app (o, none) := e
      rw [e2, show k + 1 + i = k + (i + 1) by omega]

theorem Trace.end {lim : Bool} (hlim : lim = true) {ops : List Oper} {es : List Ent} {st st' : St} (ht : Trace T lim ops es st st') : ∀ {k : Nat} {D : Nat → Bool}, (∀ j, k ≤ j → j < k + es.length → D j = true) → st'.sem = F D k es st.sem := by
  induction ht with
  | nil => intro k D _; rfl
  | touch hl => rw [hlim] at hl; cases hl
  | run hw hu hf _ ih =>
    rename_i o u es st st' _
    intro k D hD
    simp only [F, hD k (Nat.le_refl _) (by simp), cond_true]
    have e : (st.app o.dst u).sem = st.sem.app (o, some u) := sem_app st (o, some u)
    rw [ih (k := k + 1) (D := D) fun j hj hlt => hD j (by omega) (by simp; omega), e]
  | skip hw _ ih =>
    rename_i o es st st' _
    intro k D hD
    simp only [F, hD k (Nat.le_refl _) (by simp), cond_true]
    have e : (st.put o.dst (.lf .void)).sem = st.sem.app (o, none) := sem_app st (o, none)
    rw [ih (k := k + 1) (D := D) fun j hj hlt => hD j (by omega) (by simp; omega), e]

/-! ### The evaluator asks of an operation's operands alone -/
theorem mapM_congr' {α β : Type} {f : α → Option β} {l l' : List α} (h : l = l') : l.mapM f = l'.mapM f := by rw [h]

theorem evCore_congr {ρ ρ' : Operand → AV} (o : Oper) (h : ∀ x ∈ o.op.operands.toList, ρ x = ρ' x) : evCore T ρ lk o = evCore T ρ' lk o := by
  obtain ⟨dst, op, type, pos, after, guard⟩ := o
  have pairs : ∀ ps : Array (Nat × Operand), (∀ x ∈ ps.toList.map (·.2), ρ x = ρ' x) → (ps.toList.map fun p => (p.1, ρ p.2)) = ps.toList.map fun p => (p.1, ρ' p.2) := fun ps hp =>
    List.map_congr_left fun p hm => by
      obtain ⟨i, x⟩ := p
      simp only [hp x (List.mem_map.2 ⟨(i, x), hm, rfl⟩)]
  cases op <;> simp only [Op.operands] at h <;> simp only [evCore]
  case build t ps => rw [pairs ps fun x hx => h x (by simpa using hx)]
  case buildSlice t n ps => rw [pairs ps fun x hx => h x (by simpa using hx)]
  case makeFunc fn first captured =>
    have : captured.toList.map ρ = captured.toList.map ρ' := List.map_congr_left fun x hx => h x (by simp at hx ⊢; exact .inr hx)
    cases fn <;> simp only [this]
  case call c =>
    obtain ⟨callee, args, argTypes⟩ := c
    have hargs : ∀ x ∈ args.toList, ρ x = ρ' x := fun x hx => h x (by simp [Call.operands] at hx ⊢; exact .inr hx)
    cases callee with
    | value f =>
      have hf : ρ f = ρ' f := h f (by simp [Call.operands])
      have : args.toList.map ρ = args.toList.map ρ' := List.map_congr_left hargs
      simp only [hf, this]
    | invoke r n => rfl
    | builtin b =>
      dsimp only
      split
      · rename_i s x ts tx hl _
        rw [hargs s (by rw [hl]; simp), hargs x (by rw [hl]; simp)]
      · rename_i x tx hl _
        rw [hargs x (by rw [hl]; simp)]
      · rename_i x tx hl _
        rw [hargs x (by rw [hl]; simp)]
      · rename_i x y hl
        rw [hargs x (by rw [hl]; simp), hargs y (by rw [hl]; simp)]
      · rfl
  case makeMap t r => cases r <;> rfl
  case lookup t m k ok => cases ok <;> simp_all
  case slice t x lo hi mx =>
    have hx : ρ x = ρ' x := h x (by simp)
    have e1 : lo.map ρ = lo.map ρ' := by
      cases lo with
      | none => rfl
      | some l => simp only [Option.map_some]; rw [h l (by simp)]
    have e2 : hi.map ρ = hi.map ρ' := by
      cases hi with
      | none => rfl
      | some l => simp only [Option.map_some]; rw [h l (by simp)]
    have e3 : mx.map ρ = mx.map ρ' := by
      cases mx with
      | none => rfl
      | some l => simp only [Option.map_some]; rw [h l (by simp)]
    have e4 : ∀ l, hi = some l → ρ l = ρ' l := fun l hl => h l (by simp [hl])
    rw [e1, e2, e3, hx]
    split
    · rename_i l _
      rw [e4 l rfl]
    · rfl
  all_goals (first | rfl | (simp_all; done))

theorem looks_ev {s s' : SSt} {x : Operand} (h : ∀ t, x = .tmp t → s.tm.getD t .undef = s'.tm.getD t .undef) : s.ev x = s'.ev x := by
  cases x with
  | tmp t => exact h t rfl
  | _ => rfl
end

end Go.Proofs.Ytiooamodldgalaa.Abs
