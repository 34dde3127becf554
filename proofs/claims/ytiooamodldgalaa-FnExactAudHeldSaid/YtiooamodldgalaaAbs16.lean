/-
A call: what the callee's summary says holds for the caller.
-/
import Derived.Test.YtiooamodldgalaaAbs15
namespace Go.Proofs.Ytiooamodldgalaa.Abs
open Go

/-- There is code to enter. -/
def Enters (P : Program) (f : FuncId) : Prop := ∃ fn, P.funcs[f]? = some fn ∧ (fn.name == "runtime.NumGoroutine") = false ∧ fn.body.isNone = false

/-- A call of f with these arguments and objects ends with this value, and these objects. -/
def Good (P : Program) (f : FuncId) (args : List AV) (objs : Objs) (v : AV) (ob : Objs) : Prop :=
  Enters P f ∧ ∀ (E : Ctx) (ι : Im) (w : World) (vals : List Value), Inv E (lku objs) ι w → F2 (ARel E (sgOf (lku objs)) ι) args vals →
    Calls P f vals.toArray w fun e w' => ∃ x ι', e = .returned x ∧ Inv E (lku ob) ι' w' ∧ ARel E (sgOf (lku ob)) ι' v x ∧
      ∀ o, (lku objs o).isSome = true → Fits (sgOf (lku objs)) (sgOf (lku ob)) ι ι' o

/-- What an operation comes to, told of its step. -/
def OpOk (P : Program) (E : Ctx) (lk : Nat → Option AO) (ι : Im) (o : Oper) (a : Act) (w : World) (u : Upd) : Prop :=
  ∀ (next : Act → World → Prop) (Q : Exit → Act → World → Prop),
    (∀ v w' ι', Inv E (apl u lk) ι' w' → ARel E (sgOf (apl u lk)) ι' u.val v → (∀ o, lku u.new o = none → Fits (sgOf lk) (sgOf (apl u lk)) ι ι' o) → next (a.put o.dst v) w') → o.wp P a w next Q

section
variable {E : Ctx} {lk lk0 : Nat → Option AO} {ι : Im} {w w' : World} {P : Program} {T : Env}

theorem Step.ok {o : Oper} {a : Act} {u : Upd} (h : Step E lk ι ((execOp a.eval o).run P w) u) : OpOk P E lk ι o a w u := by
  intro next Q hn
  obtain ⟨v, w', ι', hr, hi, hv, hf⟩ := h
  unfold Oper.wp
  rcases hr with hr | ⟨hr, rfl⟩
  · rw [hr]; exact hn v w' ι' hi hv hf
  · rw [hr]; exact hn _ w' ι' hi hv hf

/-! ### Lookups -/
theorem lku_mem : ∀ {l : Objs} {o : Nat} {a : AO}, lku l o = some a → (o, a) ∈ l
  | (k, b) :: r, o, a, h => by
    unfold lku at h
    cases hb : Nat.beq k o with
    | true =>
      rw [hb] at h
      injection h with h
      subst h
      rw [Nat.eq_of_beq_eq_true hb]
      simp
    | false =>
      rw [hb] at h
      exact List.mem_cons_of_mem _ (lku_mem h)
theorem lku_of_mem : ∀ {l : Objs} {p : Nat × AO}, p ∈ l → (lku l p.1).isSome = true
  | (k, b) :: r, p, h => by
    unfold lku
    cases hb : Nat.beq k p.1 with
    | true => rfl
    | false =>
      rcases List.mem_cons.1 h with rfl | h
      · rw [Nat.beq_refl] at hb; cases hb
      · exact lku_of_mem h
theorem lku_none {l : Objs} {o : Nat} (h : ∀ p ∈ l, p.1 ≠ o) : lku l o = none := by
  cases hl : lku l o with
  | none => rfl
  | some a => exact absurd rfl (h _ (lku_mem hl))
theorem lku_map {b : Nat → Nat} {f : AO → AO} : ∀ {l : Objs} {j : Nat}, (∀ p ∈ l, b p.1 = b j → p.1 = j) → lku (l.map fun p => (b p.1, f p.2)) (b j) = (lku l j).map f
  | [], _, _ => rfl
  | (k, a) :: r, j, h => by
    have ih := lku_map (b := b) (f := f) (l := r) (j := j) fun p hp => h p (by simp [hp])
    simp only [List.map_cons, lku]
    cases hb : Nat.beq k j with
    | true =>
      rw [Nat.eq_of_beq_eq_true hb, Nat.beq_refl]
      rfl
    | false =>
      have : Nat.beq (b k) (b j) = false := by
        cases hbb : Nat.beq (b k) (b j) with
        | false => rfl
        | true =>
          have := h (k, a) (by simp) (Nat.eq_of_beq_eq_true hbb)
          dsimp only at this
          rw [this, Nat.beq_refl] at hb
          cases hb
      rw [this]
      exact ih
theorem lku_filter {q : Nat → Bool} : ∀ {l : Objs} {j : Nat}, lku (l.filter fun p => q p.1) j = bif q j then lku l j else none
  | [], j => by cases h : q j <;> simp [lku]
  | (k, a) :: r, j => by
    have ih := lku_filter (q := q) (l := r) (j := j)
    simp only [List.filter_cons]
    cases hb : Nat.beq k j with
    | true =>
      have := Nat.eq_of_beq_eq_true hb
      subst this
      cases hq : q k with
      | true => simp [lku, Nat.beq_refl]
      | false =>
        rw [hq] at ih
        simpa using ih
    | false =>
      cases hq : q k with
      | true => simp only [if_true, lku, hb, cond_false]; exact ih
      | false =>
        simp only [lku, hb, cond_false]
        simpa using ih
theorem lku_objs {L : List Nat} {g : Nat → Option AO} {r : Nat → Nat} {f : AO → AO} {o : Nat} (ho : o ∈ L) (inj : ∀ p ∈ L, r p = r o → p = o) : lku (L.filterMap fun o => (g o).map fun a => (r o, f a)) (r o) = (g o).map f := by
  induction L with
  | nil => cases ho
  | cons x M ih =>
    have next : (o ∈ M → lku (M.filterMap fun o => (g o).map fun a => (r o, f a)) (r o) = (g o).map f) := fun hm => ih hm fun p hp => inj p (by simp [hp])
    rw [List.filterMap_cons]
    by_cases hx : x = o
    · subst hx
      cases hg : g x with
      | some a => simp [lku, Nat.beq_refl]
      | none =>
        simp only [Option.map_none]
        by_cases hm : x ∈ M
        · rw [next hm, hg]; rfl
        · apply lku_none
          intro p hp e
          obtain ⟨y, hy, hpy⟩ := List.mem_filterMap.1 hp
          obtain ⟨a, _, rfl⟩ := Option.map_eq_some_iff.1 hpy
          have := inj y (by simp [hy]) e
          exact hm (this ▸ hy)
    · have hm : o ∈ M := by
        rcases List.mem_cons.1 ho with h | h
        · exact absurd h.symm hx
        · exact h
      cases hg : g x with
      | none => simpa using next hm
      | some a =>
        have : Nat.beq (r x) (r o) = false := by
          cases hb : Nat.beq (r x) (r o) with
          | false => rfl
          | true => exact absurd (inj x (by simp) (Nat.eq_of_beq_eq_true hb)) hx
        simp only [Option.map_some, lku, this, cond_false]
        exact next hm

theorem nid_inj {dst : Option Tmp} {i j : Nat} (h : nid dst i = nid dst j) : i = j := by
  cases dst <;> simp [nid] at h <;> omega
theorem nid_sub {dst : Option Tmp} {i : Nat} : nid dst i - nid dst 0 = i := by
  cases dst <;> simp [nid]

theorem back_lt {L : List Nat} {dst : Option Tmp} {j : Nat} (h : j < L.length) : back L dst j = L[j] := by
  simp [back, List.getElem?_eq_getElem h]
theorem back_ge {L : List Nat} {dst : Option Tmp} {j : Nat} (h : L.length ≤ j) : back L dst j = nid dst (j - L.length) := by
  have : L[j]? = none := List.getElem?_eq_none h
  simp [back, this]

theorem blt_iff {a b : Nat} : Nat.blt a b = true ↔ a < b := by rw [Nat.blt_eq]

/-! ### A call -/
theorem call_sound (h : Inv E lk ι w) (hsub : ∀ o a, lk0 o = some a → lk o = some a) (hO : ∀ f args objs v ob, (T.O f args objs).gives (v, ob) → Good P f args objs v ob)
    {dst : Option Tmp} {f : FuncId} {args : List AV} {vals : List Value} {u : Upd} (hu : (evCall T lk0 dst f args).gives u) (hok : u.ok = true) (hargs : F2 (ARel E (sgOf lk) ι) args vals)
    (hn : ∀ p ∈ u.new, lk p.1 = none ∧ (∀ q b, lk q = some b → p.1 ∉ b.ids)) :
    Enters P f ∧ Calls P f vals.toArray w fun e w' => ∃ v ι', e = .returned v ∧ Inv E (apl u lk) ι' w' ∧ ARel E (sgOf (apl u lk)) ι' u.val v ∧ ∀ o, lku u.new o = none → Fits (sgOf lk) (sgOf (apl u lk)) ι ι' o := by
  unfold evCall at hu
  split at hu
  case h_2 => exact hu.elim
  rename_i as snap hmask
  generalize hL : reach lk0 (as.flatMap AV.ids) = L at hu
  obtain ⟨hnd, hroots⟩ : L.Nodup ∧ ∀ x ∈ as.flatMap AV.ids, x ∈ L := hL ▸ reach_spec lk0 _
  dsimp only at hu
  cases hc : (L.all (fun o => (lk0 o).isSome) && !(L.any fun o => snap.any (Nat.beq o))) with
  | false => rw [hc] at hu; exact hu.elim
  | true =>
  rw [hc] at hu
  simp only [Bool.and_eq_true, Bool.not_eq_true', List.all_eq_true, List.any_eq_false] at hc
  obtain ⟨hL1, hL2⟩ := hc
  dsimp only [cond_true] at hu
  obtain ⟨⟨v, ob⟩, hg, rfl⟩ := gives_map hu
  clear hu
  obtain ⟨hent, hgood⟩ := hO _ _ _ _ _ hg
  refine ⟨hent, ?_⟩
  clear hg
  dsimp only at hok hn ⊢
  generalize hobj : (L.filterMap fun o => (lk0 o).map fun a => (idx L o, a.ren (idx L))) = objs at hgood
  -- the callee's setting
  have idxinj : ∀ o ∈ L, ∀ p ∈ L, idx L p = idx L o → p = o := by
    intro o ho p hp e
    have h1 := idx_mem ho
    have h2 := idx_mem hp
    rw [e, h1] at h2
    injection h2 with h2
    exact h2.symm
  have lkL : ∀ o ∈ L, lku objs (idx L o) = (lk0 o).map (AO.ren (idx L)) := fun o ho => hobj ▸ lku_objs ho (idxinj o ho)
  have idxlt : ∀ o ∈ L, idx L o < L.length := fun o ho => (List.getElem?_eq_some_iff.1 (idx_mem ho)).1
  have lkge : ∀ j, L.length ≤ j → lku objs j = none := by
    intro j hj
    rw [← hobj]
    apply lku_none
    intro p hp e
    obtain ⟨y, hy, hpy⟩ := List.mem_filterMap.1 hp
    obtain ⟨a, _, rfl⟩ := Option.map_eq_some_iff.1 hpy
    have := idxlt y hy
    dsimp only at e
    omega
  have lkSome : ∀ j a', lku objs j = some a' → ∃ o a, o ∈ L ∧ L[j]? = some o ∧ lk0 o = some a ∧ lk o = some a ∧ a' = a.ren (idx L) ∧ j = idx L o := by
    intro j a' ha
    have hj : j < L.length := by
      rcases Nat.lt_or_ge j L.length with h' | h'
      · exact h'
      · rw [lkge j h'] at ha; cases ha
    have ho : L[j]? = some L[j] := List.getElem?_eq_getElem hj
    have hi := idx_get hnd ho
    have hm := List.mem_of_getElem? ho
    have := lkL _ hm
    rw [hi, ha] at this
    obtain ⟨a, h1, h2⟩ := Option.map_eq_some_iff.1 this.symm
    exact ⟨L[j], a, hm, ho, h1, hsub _ _ h1, h2.symm, hi.symm⟩
  let ιc : Im := ⟨fun j => ι.v (L.getD j 0), fun j => ι.v2 (L.getD j 0)⟩
  have ιcL : ∀ o ∈ L, ιc.v (idx L o) = ι.v o ∧ ∀ i, ιc.v2 (idx L o) i = ι.v2 o i := by
    intro o ho
    have : L.getD (idx L o) 0 = o := by rw [List.getD_eq_getElem?_getD, idx_mem ho]; rfl
    exact ⟨by show ι.v _ = _; rw [this], fun i => by show ι.v2 _ i = _; rw [this]⟩
  have toC : ∀ p, FitsR (sgOf lk) (sgOf (lku objs)) ι ιc p (idx L p) := by
    intro p
    by_cases hp : p ∈ L
    · obtain ⟨a, ha⟩ := Option.isSome_iff_exists.1 (hL1 p hp)
      refine .inr ⟨?_, (ιcL p hp).1, (ιcL p hp).2⟩
      simp only [sgOf, lkL p hp, ha, hsub _ _ ha, Option.map_some, sig_ren]
    · refine .inl ?_
      rw [idx_not hp]
      simp [sgOf, lkge _ (Nat.le_refl _)]
  let E' : Ctx := ⟨w, fun k => ∃ o a, o ∈ L ∧ lk o = some a ∧ fp ι o a k, fun k => E.S k ∨ ∃ o a, o ∈ snap ∧ lk o = some a ∧ fp ι o a k⟩
  have hup : Up E E' := ⟨fun k hk => .inl hk, fun k hk => h.agree k hk⟩
  have hInv : Inv E' (lku objs) ιc w := by
    constructor
    · intro j a' ha
      obtain ⟨o, a, ho, _, _, hlo, rfl, rfl⟩ := lkSome j a' ha
      exact ((h.ob o a hlo).turn (b := false) (.inr hup) (fun hb => by cases hb)).ren (ιcL o ho).1 (ιcL o ho).2 fun q _ => toC q
    · intro j j' a a' ha ha' hne k hk hk'
      obtain ⟨o, b, ho, _, _, hlo, rfl, rfl⟩ := lkSome j a ha
      obtain ⟨o', b', ho', _, _, hlo', rfl, rfl⟩ := lkSome j' a' ha'
      rw [fp_ren (ιcL o ho).1 (ιcL o ho).2] at hk
      rw [fp_ren (ιcL o' ho').1 (ιcL o' ho').2] at hk'
      exact h.dj o o' b b' hlo hlo' (fun e => hne (by rw [e])) k hk hk'
    · intro j a' k ha hk
      obtain ⟨o, a, ho, _, _, hlo, rfl, rfl⟩ := lkSome j a' ha
      rw [fp_ren (ιcL o ho).1 (ιcL o ho).2] at hk
      exact ⟨(h.bd o a k hlo hk).1, .inl ⟨o, a, ho, hlo, hk⟩⟩
    · exact Nat.le_refl _
    · rfl
    · rfl
    · rfl
    · intro k _ _; rfl
    · rintro k (hk | ⟨o', a', ho', hlo', hk⟩)
      · have := h.st k hk
        refine ⟨Nat.lt_of_lt_of_le this.1 h.sz, ?_⟩
        rintro ⟨o, a, ho, hlo, hf⟩
        rcases (h.bd o a k hlo hf).2 with h1 | h1
        · exact this.2 h1
        · omega
      · refine ⟨(h.bd o' a' k hlo' hk).1, ?_⟩
        rintro ⟨o, a, ho, hlo, hf⟩
        refine h.dj o o' a a' hlo hlo' (fun e => ?_) k hf hk
        subst e
        exact hL2 o ho (anyBeq.2 ho')
  have hvals : F2 (ARel E' (sgOf (lku objs)) ιc) (as.map (AV.ren (idx L))) vals := by
    refine F2.mapl (F2.imp (R := ARel E' (sgOf lk) ι) ?_ fun x v _ _ hr => hr.ren fun o _ => toC o)
    revert hmask
    split
    · rename_i m _
      intro hmask
      exact toRoAs_sound h hsub hup rfl hmask (fun o a k ho hlo hk => .inr ⟨o, a, ho, hlo, hk⟩) hargs
    · intro hmask
      injection hmask with hmask
      injection hmask with e1 e2
      subst e1
      exact hargs.imp fun x v _ _ hr => hr.turn (b := false) (.inr hup) fun hb => by cases hb
  refine Calls.mono (hgood E' ιc w vals hInv hvals) ?_
  rintro e w' ⟨x, ιc', rfl, hI', hx, hF⟩
  -- back to the caller's numbers
  simp only [Bool.and_eq_true, Bool.or_eq_true] at hok
  obtain ⟨hro, hcl⟩ := hok
  generalize hB : back L dst = B at *
  generalize hset : ((ob.filter fun p => Nat.blt p.1 L.length).map fun p => (B p.1, p.2.ren B)) = oset at *
  generalize hdel : (L.filter fun o => !(ob.any fun p => Nat.beq p.1 (idx L o))) = odel at *
  generalize hnew : ((ob.filter fun p => !(Nat.blt p.1 L.length)).map fun p => (B p.1, p.2.ren B)) = onew at *
  have Blt : ∀ j, (hj : j < L.length) → B j = L[j] := fun j hj => hB ▸ back_lt hj
  have Bge : ∀ j, L.length ≤ j → B j = nid dst (j - L.length) := fun j hj => hB ▸ back_ge hj
  have Bidx : ∀ o ∈ L, B (idx L o) = o := by
    intro o ho
    rw [Blt _ (idxlt o ho)]
    have := idx_mem ho
    rw [List.getElem?_eq_getElem (idxlt o ho)] at this
    injection this
  have newL : ∀ o a, lku onew o = some a → lk o = none := fun o a ha => (hn _ (lku_mem ha)).1
  have newLn : ∀ o ∈ L, lku onew o = none := by
    intro o ho
    cases hl : lku onew o with
    | none => rfl
    | some a =>
      obtain ⟨b, hb⟩ := Option.isSome_iff_exists.1 (hL1 o ho)
      have := hsub _ _ hb
      rw [newL o a hl] at this
      cases this
  have newB : ∀ j, L.length ≤ j → lku onew (B j) = (lku ob j).map (AO.ren B) := by
    intro j hj
    rw [← hnew, lku_map (b := B) (f := AO.ren B)]
    · rw [lku_filter (q := fun n => !(Nat.blt n L.length))]
      have : Nat.blt j L.length = false := by
        cases hb : Nat.blt j L.length with
        | false => rfl
        | true => have := blt_iff.1 hb; omega
      simp [this]
    · intro p hp e
      have hp := (List.mem_filter.1 hp).2
      have hge : L.length ≤ p.1 := by
        rcases Nat.lt_or_ge p.1 L.length with h' | h'
        · rw [blt_iff.2 h'] at hp; cases hp
        · exact h'
      rw [Bge _ hge, Bge _ hj] at e
      have := nid_inj e
      omega
  have newO : ∀ o a, lku onew o = some a → ∃ j c, L.length ≤ j ∧ o = B j ∧ lku ob j = some c ∧ a = c.ren B := by
    intro o a ha
    have hm := lku_mem ha
    rw [← hnew] at hm
    obtain ⟨p, hp, e⟩ := List.mem_map.1 hm
    have hp' := (List.mem_filter.1 hp).2
    have hge : L.length ≤ p.1 := by
      rcases Nat.lt_or_ge p.1 L.length with h' | h'
      · rw [blt_iff.2 h'] at hp'; cases hp'
      · exact h'
    injection e with e1 e2
    rw [← e1, newB _ hge] at ha
    obtain ⟨c, hc, hca⟩ := Option.map_eq_some_iff.1 ha
    exact ⟨p.1, c, hge, e1.symm, hc, hca.symm⟩
  have aplL : ∀ o ∈ L, apl ⟨v.ren B, oset, odel, onew, (snap.isEmpty || (v.noRo && ob.all fun p => p.2.noRo)) && closedIds L.length v ob⟩ lk o = (lku ob (idx L o)).map (AO.ren B) := by
    intro o ho
    simp only [apl, newLn o ho]
    have hsl : lku oset o = (lku ob (idx L o)).map (AO.ren B) := by
      have e1 : lku oset (B (idx L o)) = (lku ob (idx L o)).map (AO.ren B) := by
        rw [← hset, lku_map (b := B) (f := AO.ren B)]
        · rw [lku_filter (q := fun n => Nat.blt n L.length), blt_iff.2 (idxlt o ho)]
          rfl
        · intro p hp e
          have hp := blt_iff.1 (List.mem_filter.1 hp).2
          rw [Blt _ hp, Bidx o ho] at e
          have : L[p.1]? = some o := by rw [List.getElem?_eq_getElem hp, e]
          exact (idx_get hnd this).symm
      rwa [Bidx o ho] at e1
    obtain ⟨b, hb⟩ := Option.isSome_iff_exists.1 (hL1 o ho)
    have hb := hsub _ _ hb
    cases hj : lku ob (idx L o) with
    | none =>
      have : odel.any (Nat.beq o) = true := by
        rw [anyBeq, ← hdel, List.mem_filter]
        refine ⟨ho, ?_⟩
        rw [Bool.not_eq_true', List.any_eq_false]
        intro p hp e
        have := lku_of_mem hp
        rw [Nat.eq_of_beq_eq_true e, hj] at this
        cases this
      rw [this]
      rfl
    | some c =>
      have : odel.any (Nat.beq o) = false := by
        rw [anyBeqF, ← hdel, List.mem_filter]
        rintro ⟨_, hx⟩
        rw [Bool.not_eq_true', List.any_eq_false] at hx
        exact hx _ (lku_mem hj) (Nat.beq_refl _)
      rw [this, hsl, hj]
      simp [hb]
  have aplN : ∀ o, o ∉ L → apl ⟨v.ren B, oset, odel, onew, (snap.isEmpty || (v.noRo && ob.all fun p => p.2.noRo)) && closedIds L.length v ob⟩ lk o = match lku onew o with | some a => some a | none => lk o := by
    intro o ho
    simp only [apl]
    cases hl : lku onew o with
    | some a => rfl
    | none =>
      have h1 : odel.any (Nat.beq o) = false := by
        rw [anyBeqF, ← hdel, List.mem_filter]
        exact fun hx => ho hx.1
      have h2 : lku oset o = none := by
        apply lku_none
        rw [← hset]
        intro p hp e
        obtain ⟨q, hq, rfl⟩ := List.mem_map.1 hp
        have hq := blt_iff.1 (List.mem_filter.1 hq).2
        dsimp only at e
        rw [Blt _ hq] at e
        exact ho (e ▸ List.getElem_mem hq)
      rw [h1, h2]
      cases lk o <;> rfl
  generalize hU : (⟨v.ren B, oset, odel, onew, (snap.isEmpty || (v.noRo && ob.all fun p => p.2.noRo)) && closedIds L.length v ob⟩ : Upd) = U at *
  let ι' : Im := ⟨fun o => match lku onew o with | some _ => ιc'.v (L.length + (o - nid dst 0)) | none => ι.v o, fun o => match lku onew o with | some _ => ιc'.v2 (L.length + (o - nid dst 0)) | none => ι.v2 o⟩
  have ι'o : ∀ o, lku onew o = none → ι'.v o = ι.v o ∧ ∀ i, ι'.v2 o i = ι.v2 o i := by
    intro o ho
    exact ⟨by simp only [ι', ho], fun i => by simp only [ι', ho]⟩
  have ι'n : ∀ j c, L.length ≤ j → lku ob j = some c → ι'.v (B j) = ιc'.v j ∧ ∀ i, ι'.v2 (B j) i = ιc'.v2 j i := by
    intro j c hj hc
    have h1 := newB j hj
    rw [hc] at h1
    have h2 : L.length + (B j - nid dst 0) = j := by
      rw [Bge j hj, nid_sub]
      omega
    constructor
    · simp only [ι', h1, Option.map_some, h2]
    · intro i
      simp only [ι', h1, Option.map_some, h2]
  have keepL : ∀ o ∈ L, lku ob (idx L o) = none ∨ (sgOf (lku ob) (idx L o) = sgOf lk o ∧ ιc'.v (idx L o) = ι.v o ∧ ∀ i, ιc'.v2 (idx L o) i = ι.v2 o i) := by
    intro o ho
    have hs : (lku objs (idx L o)).isSome = true := by
      obtain ⟨b, hb⟩ := Option.isSome_iff_exists.1 (hL1 o ho)
      rw [lkL o ho, hb]; rfl
    rcases hF (idx L o) hs with h1 | ⟨h1, h2, h3⟩
    · refine .inl ?_
      simpa [sgOf] using h1
    · refine .inr ⟨?_, h2.trans (ιcL o ho).1, fun i => (h3 i).trans ((ιcL o ho).2 i)⟩
      rw [h1]
      obtain ⟨b, hb⟩ := Option.isSome_iff_exists.1 (hL1 o ho)
      simp only [sgOf, lkL o ho, hb, hsub _ _ hb, Option.map_some, sig_ren]
  have fromC : ∀ p, (p < L.length ∨ (lku ob p).isSome = true) → FitsR (sgOf (lku ob)) (sgOf (apl U lk)) ιc' ι' p (B p) := by
    intro p hp
    rcases Nat.lt_or_ge p L.length with hlt | hge
    · have ho : L[p]? = some L[p] := List.getElem?_eq_getElem hlt
      have hm := List.mem_of_getElem? ho
      have hi := idx_get hnd ho
      rw [Blt p hlt]
      have ha := aplL _ hm
      rw [hi] at ha
      have hk := keepL _ hm
      rw [hi] at hk
      rcases hk with h1 | ⟨h1, h2, h3⟩
      · refine .inl ?_
        simp [sgOf, ha, h1]
      · refine .inr ⟨?_, ?_, fun i => ?_⟩
        · simp only [sgOf, ha, Option.map_map]
          cases lku ob p <;> simp [sig_ren]
        · rw [(ι'o _ (newLn _ hm)).1, h2]
        · rw [(ι'o _ (newLn _ hm)).2, h3]
    · have hs : (lku ob p).isSome = true := by
        rcases hp with hp | hp
        · omega
        · exact hp
      obtain ⟨c, hc⟩ := Option.isSome_iff_exists.1 hs
      have h1 := newB p hge
      rw [hc] at h1
      have hnL : B p ∉ L := by
        intro hm
        rw [newLn _ hm] at h1
        cases h1
      refine .inr ⟨?_, (ι'n p c hge hc).1, (ι'n p c hge hc).2⟩
      have h2 := aplN _ hnL
      rw [h1] at h2
      simp only [sgOf, h2, hc, Option.map_some, sig_ren]
  have closed : ∀ p, (p ∈ v.ids ∨ ∃ j c, lku ob j = some c ∧ p ∈ c.ids) → p < L.length ∨ (lku ob p).isSome = true := by
    intro p hp
    unfold closedIds at hcl
    rw [List.all_eq_true] at hcl
    have := hcl p (by
      rw [List.mem_append]
      rcases hp with hp | ⟨j, c, hj, hp⟩
      · exact .inl hp
      · exact .inr (List.mem_flatMap.2 ⟨_, lku_mem hj, hp⟩))
    rw [Bool.or_eq_true] at this
    rcases this with h1 | h1
    · exact .inl (blt_iff.1 h1)
    · refine .inr ?_
      obtain ⟨q, hq, hqe⟩ := List.any_eq_true.1 h1
      rw [← Nat.eq_of_beq_eq_true hqe]
      exact lku_of_mem hq
  have hturn : Turns E' E (!snap.isEmpty) := by
    cases hs : snap.isEmpty with
    | false => exact .inl rfl
    | true =>
      refine .inr ⟨?_, fun k hk => ?_⟩
      · rintro k (hk | ⟨o, a, ho, _⟩)
        · exact hk
        · rw [List.isEmpty_iff] at hs
          subst hs
          cases ho
      · rcases hk with hk | ⟨o, a, ho, _⟩
        · exact (h.agree k hk).symm
        · rw [List.isEmpty_iff] at hs
          subst hs
          cases ho
  have roV : (!snap.isEmpty) = true → v.noRo = true ∧ ∀ j c, lku ob j = some c → c.noRo = true := by
    intro hs
    rw [Bool.not_eq_true'] at hs
    rcases hro with h1 | h1
    · rw [h1] at hs; cases hs
    · exact ⟨h1.1, fun j c hj => List.all_eq_true.1 h1.2 _ (lku_mem hj)⟩
  have turned : ∀ o a, (o ∈ L ∨ (lku onew o).isSome = true) → apl U lk o = some a → ∃ j c, lku ob j = some c ∧ a = c.ren B ∧ o = B j ∧ ι'.v o = ιc'.v j ∧ ∀ i, ι'.v2 o i = ιc'.v2 j i := by
    intro o a hX ha
    by_cases hm : o ∈ L
    · rw [aplL o hm] at ha
      obtain ⟨c, hc, hca⟩ := Option.map_eq_some_iff.1 ha
      rcases keepL o hm with h1 | ⟨_, h2, h3⟩
      · rw [h1] at hc; cases hc
      · exact ⟨idx L o, c, hc, hca.symm, (Bidx o hm).symm, by rw [(ι'o o (newLn o hm)).1, h2], fun i => by rw [(ι'o o (newLn o hm)).2, h3]⟩
    · rcases hX with hX | hX
      · exact absurd hX hm
      · obtain ⟨b, hb⟩ := Option.isSome_iff_exists.1 hX
        have h2 := aplN o hm
        rw [hb, ha] at h2
        injection h2 with h2
        subst h2
        obtain ⟨j, c, hj, rfl, hc, hca⟩ := newO o a hb
        exact ⟨j, c, hc, hca, rfl, (ι'n j c hj hc).1, (ι'n j c hj hc).2⟩
  have fitAll : ∀ o, lku onew o = none → Fits (sgOf lk) (sgOf (apl U lk)) ι ι' o := by
    intro o ho
    by_cases hm : o ∈ L
    · rcases keepL o hm with h1 | ⟨h1, h2, h3⟩
      · refine .inl ?_
        simp [sgOf, aplL o hm, h1]
      · refine .inr ⟨?_, (ι'o o ho).1, (ι'o o ho).2⟩
        rw [← h1]
        simp only [sgOf, aplL o hm, Option.map_map]
        cases lku ob (idx L o) <;> simp [sig_ren]
    · refine .inr ⟨?_, (ι'o o ho).1, (ι'o o ho).2⟩
      have := aplN o hm
      rw [ho] at this
      simp only [sgOf, this]
  refine ⟨x, ι', rfl, ?_, (hx.turn hturn fun hs => (roV hs).1).ren fun p hp => fromC p (closed p (.inl hp)), fitAll⟩
  refine h.turn (fun o => o ∈ L ∨ (lku onew o).isSome = true) ?_ ?_ ?_ ?_ ?_ ?_ hI'.sz hI'.os hI'.tape hI'.out
  · intro o hX
    have hm : o ∉ L := fun hm => hX (.inl hm)
    have hnn : lku onew o = none := by
      cases hl : lku onew o with
      | none => rfl
      | some a => exact absurd (.inr (by rw [hl]; rfl)) hX
    have := aplN o hm
    rw [hnn] at this
    exact ⟨this, (ι'o o hnn).1, (ι'o o hnn).2⟩
  · intro o a p _ hlo hp
    refine fitAll p ?_
    cases hl : lku onew p with
    | none => rfl
    | some b => exact absurd hp ((hn _ (lku_mem hl)).2 o a hlo)
  · intro o a hX ha
    obtain ⟨j, c, hc, rfl, _, h1, h2⟩ := turned o a hX ha
    exact ((hI'.ob j c hc).turn hturn fun hs => (roV hs).2 j c hc).ren h1 h2 fun q hq => fromC q (closed q (.inr ⟨j, c, hc, hq⟩))
  · intro k hk hX
    refine hI'.fr k hk ?_
    rintro ⟨o, a, ho, hlo, hf⟩
    exact hX o a (.inl ho) hlo hf
  · intro o a k hX ha hk
    obtain ⟨j, c, hc, rfl, _, h1, h2⟩ := turned o a hX ha
    rw [fp_ren h1 h2] at hk
    obtain ⟨h3, h4⟩ := hI'.bd j c k hc hk
    refine ⟨h3, ?_⟩
    rcases h4 with ⟨o', a', ho', hlo', hf'⟩ | h4
    · exact .inl ⟨o', a', .inl ho', hlo', hf'⟩
    · exact .inr h4
  · intro o o' a a' hX hX' ha ha' hne k hk hk'
    obtain ⟨j, c, hc, rfl, e, h1, h2⟩ := turned o a hX ha
    obtain ⟨j', c', hc', rfl, e', h1', h2'⟩ := turned o' a' hX' ha'
    rw [fp_ren h1 h2] at hk
    rw [fp_ren h1' h2'] at hk'
    exact hI'.dj j j' c c' hc hc' (fun hj => hne (by rw [e, e', hj])) k hk hk'
end

end Go.Proofs.Ytiooamodldgalaa.Abs
