/-
What is said of values is kept under other numbers for the objects, and under another setting of what stays.
-/
import Derived.Test.YtiooamodldgalaaAbs14
namespace Go.Proofs.Ytiooamodldgalaa.Abs
open Go

section
variable {E E' : Ctx} {lk lk0 : Nat → Option AO} {ι ι' : Im} {w w' : World} {P : Program} {T : Env} {sg sg' : Nat → Option Sig} {r : Nat → Nat}

/-! ### Other numbers -/
def FitsR (sg sg' : Nat → Option Sig) (ι ι' : Im) (o p : Nat) : Prop := sg' p = none ∨ (sg' p = sg o ∧ ι'.v p = ι.v o ∧ ∀ i, ι'.v2 p i = ι.v2 o i)

theorem LRel.ren {x : LV} {v : Value} (h : LRel E sg ι x v) (hf : ∀ o ∈ x.ids, FitsR sg sg' ι ι' o (r o)) : LRel E sg' ι' (x.ren r) v := by
  cases x with
  | ptr o off =>
    intro hs
    rcases hf o (by simp [LV.ids]) with hn | ⟨h1, h2, _⟩
    · rw [hn] at hs; cases hs
    · rw [h2]; exact h (h1 ▸ hs)
  | eptr o i off =>
    intro t n ls hs
    rcases hf o (by simp [LV.ids]) with hn | ⟨h1, h2, _⟩
    · rw [hn] at hs; cases hs
    · rw [h2]; exact h t n ls (h1 ▸ hs)
  | iptr o i j off =>
    intro e a n ls hs
    rcases hf o (by simp [LV.ids]) with hn | ⟨h1, _, h3⟩
    · rw [hn] at hs; cases hs
    · rw [h3]; exact h e a n ls (h1 ▸ hs)
  | own o =>
    intro t n ls hs
    rcases hf o (by simp [LV.ids]) with hn | ⟨h1, h2, _⟩
    · rw [hn] at hs; cases hs
    · rw [h2]; exact h t n ls (h1 ▸ hs)
  | view o lo hi =>
    intro t n ls hs
    rcases hf o (by simp [LV.ids]) with hn | ⟨h1, h2, _⟩
    · rw [hn] at hs; cases hs
    · rw [h2]; exact h t n ls (h1 ▸ hs)
  | inn o i =>
    intro t n ls hs
    rcases hf o (by simp [LV.ids]) with hn | ⟨h1, _, h3⟩
    · rw [hn] at hs; cases hs
    · rw [h3]; exact h t n ls (h1 ▸ hs)
  | mp o =>
    intro hs
    rcases hf o (by simp [LV.ids]) with hn | ⟨h1, h2, _⟩
    · rw [hn] at hs; cases hs
    · rw [h2]; exact h (h1 ▸ hs)
  | sref o n =>
    intro hs
    rcases hf o (by simp [LV.ids]) with hn | ⟨h1, h2, _⟩
    · rw [hn] at hs; cases hs
    · rw [h2]; exact h (h1 ▸ hs)
  | fn f cs =>
    intro hs
    have key : ∀ o ∈ cs, sg o = some .cells ∧ ι'.v (r o) = ι.v o := by
      intro o ho
      have hs' := hs (r o) (List.mem_map_of_mem ho)
      rcases hf o (by simpa [LV.ids] using ho) with hn | ⟨h1, h2, _⟩
      · rw [hn] at hs'; cases hs'
      · exact ⟨h1 ▸ hs', h2⟩
    have h0 := h (fun o ho => (key o ho).1)
    rw [h0, List.map_map]
    congr 2
    exact List.map_congr_left fun o ho => (key o ho).2.symm
  | _ => exact h

theorem LRels.ren {l : List LV} {cs : List Value} (h : F2 (LRel E sg ι) l cs) (hf : ∀ o ∈ l.flatMap LV.ids, FitsR sg sg' ι ι' o (r o)) : F2 (LRel E sg' ι') (l.map (LV.ren r)) cs :=
  F2.mapl (F2.imp h fun x _ hx _ hr => LRel.ren hr fun o ho => hf o (List.mem_flatMap.2 ⟨x, hx, ho⟩))

theorem CRel.ren {x : CV} {v : Value} (h : CRel E sg ι x v) (hf : ∀ o ∈ x.ids, FitsR sg sg' ι ι' o (r o)) : CRel E sg' ι' (x.ren r) v := by
  cases x with
  | leaf x => exact LRel.ren h hf
  | agg l =>
    obtain ⟨cs, rfl, h⟩ := h
    exact ⟨cs, rfl, LRels.ren h hf⟩

theorem ARel.ren {x : AV} {v : Value} (h : ARel E sg ι x v) (hf : ∀ o ∈ x.ids, FitsR sg sg' ι ι' o (r o)) : ARel E sg' ι' (x.ren r) v := by
  cases x with
  | c x => exact CRel.ren h hf
  | tup l =>
    obtain ⟨vs, rfl, h⟩ := h
    exact ⟨vs, rfl, F2.mapl (F2.imp h fun x _ hx _ hr => CRel.ren hr fun o ho => hf o (List.mem_flatMap.2 ⟨x, hx, ho⟩))⟩

theorem sig_ren (a : AO) : sig (a.ren r) = sig a := by cases a <;> rfl

theorem ORel.ren {o p : Nat} {a : AO} (h : ORel E sg ι w o a) (h1 : ι'.v p = ι.v o) (h2 : ∀ i, ι'.v2 p i = ι.v2 o i) (hf : ∀ q ∈ a.ids, FitsR sg sg' ι ι' q (r q)) : ORel E sg' ι' w p (a.ren r) := by
  cases a with
  | cells t vs =>
    obtain ⟨g, cs, hv, hg, h1c, hr⟩ := h
    exact ⟨g, cs, h1.trans hv, hg, h1c, LRels.ren hr hf⟩
  | rows e t xs =>
    have e2 : ι'.v2 p = ι.v2 o := funext h2
    have h : RowRel w ι o e t xs := h
    show RowRel w ι' p e t xs
    cases t with
    | list e2' a =>
      obtain ⟨hf, ho, hi, hd1, hd2⟩ := h
      refine ⟨hf, by rw [h1, e2]; exact ho, fun i x hx => by rw [h2]; exact hi i x hx, ?_, ?_⟩
      · intro i k hi hk; rw [h1]; rw [h2] at hk; exact hd1 i k hi hk
      · intro i j k hi hj hne hk; rw [h2]; rw [h2] at hk; exact hd2 i j k hi hj hne hk
    | _ => exact ⟨h.1, by rw [h1]; exact h.2⟩
  | mset es =>
    obtain ⟨q, ms, cl, hv, hg, he⟩ := h
    exact ⟨q, ms, cl, h1.trans hv, hg, he⟩

theorem fp_ren {o p : Nat} {a : AO} (h1 : ι'.v p = ι.v o) (h2 : ∀ i, ι'.v2 p i = ι.v2 o i) (k : Nat) : fp ι' p (a.ren r) k ↔ fp ι o a k := by
  cases a <;> simp [fp, AO.ren, h1, h2]

/-! ### Another setting of what stays -/
structure Up (E E' : Ctx) : Prop where
  s : ∀ k, E.S k → E'.S k
  h : ∀ k, E.S k → E'.w0.heap[k]? = E.w0.heap[k]?

theorem SS.up (hu : Up E E') {α : Type} {R R' : α → List Value → Prop} (hR : ∀ x c, R x c → R' x c) {sz : Nat} {A : Option Addr} {xs : List α} (h : SS E R sz A xs) : SS E' R' sz A xs := by
  refine ⟨h.1, fun hp => ?_⟩
  obtain ⟨ad, hA, hS, hc⟩ := h.2 hp
  refine ⟨ad, hA, hu.s _ hS, fun j x hj => ?_⟩
  obtain ⟨c, h1, h2, h3⟩ := hc j x hj
  refine ⟨c, h1, hR _ _ h2, fun i u hi => ?_⟩
  rw [← h3 i u hi]
  exact World.cell?_of_block (by rw [add_block]; exact hu.h _ hS)

theorem SV.up (hu : Up E E') : ∀ (t : RT) {x : El t} {cs : List Value}, SV E t x cs → SV E' t x cs
  | .int _, _, _, h => h
  | .bool, _, _, h => h
  | .str, _, _, h => h
  | .pair a b, _, _, h => by
    obtain ⟨c, d, h0, h1, h2⟩ := h
    exact ⟨c, d, h0, SV.up hu a h1, SV.up hu b h2⟩
  | .list _ a, _, _, h => by
    obtain ⟨A, n, h0, h1, h2⟩ := h
    exact ⟨A, n, h0, h1, h2.up hu fun x c hx => SV.up hu a hx⟩

theorem LRel.up (hu : Up E E') {x : LV} {v : Value} (h : LRel E sg ι x v) : LRel E' sg ι x v := by
  cases x with
  | rptr t y off =>
    obtain ⟨ad, cs, hv, h1, h2, h3⟩ := h
    refine ⟨ad, cs, hv, h1.up hu, hu.s _ h2, fun j u hj => ?_⟩
    rw [← h3 j u hj]
    exact World.cell?_of_block (by rw [add_block]; exact hu.h _ h2)
  | ro t xs =>
    obtain ⟨A, n, hv, h1, h2⟩ := h
    exact ⟨A, n, hv, h1, h2.up hu fun x c hx => SV.up hu t hx⟩
  | _ => exact h

theorem LRel.noRo {x : LV} {v : Value} (hn : x.noRo = true) (h : LRel E sg ι x v) : LRel E' sg ι x v := by
  cases x with
  | rptr t y off => cases hn
  | ro t xs => cases hn
  | _ => exact h

/-- Either way. -/
def Turns (E E' : Ctx) (b : Bool) : Prop := b = true ∨ Up E E'

theorem LRel.turn {b : Bool} (ht : Turns E E' b) {x : LV} {v : Value} (hn : b = true → x.noRo = true) (h : LRel E sg ι x v) : LRel E' sg ι x v := by
  rcases ht with hb | hu
  · exact h.noRo (hn hb)
  · exact h.up hu

theorem CRel.turn {b : Bool} (ht : Turns E E' b) {x : CV} {v : Value} (hn : b = true → x.noRo = true) (h : CRel E sg ι x v) : CRel E' sg ι x v := by
  cases x with
  | leaf x => exact LRel.turn ht hn h
  | agg l =>
    obtain ⟨cs, hv, h⟩ := h
    exact ⟨cs, hv, h.imp fun x _ hx _ hr => hr.turn ht fun hb => List.all_eq_true.1 (hn hb) x hx⟩

theorem ARel.turn {b : Bool} (ht : Turns E E' b) {x : AV} {v : Value} (hn : b = true → x.noRo = true) (h : ARel E sg ι x v) : ARel E' sg ι x v := by
  cases x with
  | c x => exact CRel.turn ht hn h
  | tup l =>
    obtain ⟨cs, hv, h⟩ := h
    exact ⟨cs, hv, h.imp fun x _ hx _ hr => hr.turn ht fun hb => List.all_eq_true.1 (hn hb) x hx⟩

theorem ORel.turn {b : Bool} (ht : Turns E E' b) {o : Nat} {a : AO} (hn : b = true → a.noRo = true) (h : ORel E sg ι w o a) : ORel E' sg ι w o a := by
  cases a with
  | cells t vs =>
    obtain ⟨g, cs, hv, hg, h1c, hr⟩ := h
    exact ⟨g, cs, hv, hg, h1c, hr.imp fun x _ hx _ hr => hr.turn ht fun hb => List.all_eq_true.1 (hn hb) x hx⟩
  | rows e t xs => exact h
  | mset es => exact h

/-! ### Lists of numbers -/
theorem anyBeq {l : List Nat} {o : Nat} : l.any (Nat.beq o) = true ↔ o ∈ l := by
  rw [List.any_eq_true]
  constructor
  · rintro ⟨x, hx, hb⟩
    rw [Nat.eq_of_beq_eq_true hb]; exact hx
  · intro h
    exact ⟨o, h, Nat.beq_refl o⟩
theorem anyBeqF {l : List Nat} {o : Nat} : l.any (Nat.beq o) = false ↔ o ∉ l := by
  rw [← anyBeq]
  cases l.any (Nat.beq o) <;> simp

theorem nub_spec : ∀ (l acc : List Nat), acc.Nodup → (nub l acc).Nodup ∧ (∀ x ∈ acc, x ∈ nub l acc) ∧ ∀ x ∈ l, x ∈ nub l acc
  | [], acc, h => ⟨h, fun _ hx => hx, fun _ hx => nomatch hx⟩
  | x :: r, acc, h => by
    unfold nub
    cases hb : acc.any (Nat.beq x) with
    | true =>
      obtain ⟨h1, h2, h3⟩ := nub_spec r acc h
      refine ⟨h1, h2, fun y hy => ?_⟩
      rcases List.mem_cons.1 hy with rfl | hy
      · exact h2 _ (anyBeq.1 hb)
      · exact h3 y hy
    | false =>
      have hx := anyBeqF.1 hb
      have h' : (acc ++ [x]).Nodup := by
        rw [List.nodup_append]
        refine ⟨h, by simp, ?_⟩
        intro a ha b hb' e
        rw [List.mem_singleton] at hb'
        subst hb'; subst e
        exact hx ha
      obtain ⟨h1, h2, h3⟩ := nub_spec r (acc ++ [x]) h'
      refine ⟨h1, fun y hy => h2 y (by simp [hy]), fun y hy => ?_⟩
      rcases List.mem_cons.1 hy with rfl | hy
      · exact h2 _ (by simp)
      · exact h3 y hy

theorem reach_spec (lk : Nat → Option AO) (l : List Nat) : (reach lk l).Nodup ∧ ∀ x ∈ l, x ∈ reach lk l := by
  obtain ⟨a1, _, a3⟩ := nub_spec l [] (by simp)
  have g : ∀ m : List Nat, m.Nodup → (grow lk m).Nodup ∧ ∀ x ∈ m, x ∈ grow lk m := fun m hm => ⟨(nub_spec _ m hm).1, (nub_spec _ m hm).2.1⟩
  obtain ⟨b1, b2⟩ := g _ a1
  obtain ⟨c1, c2⟩ := g _ b1
  obtain ⟨d1, d2⟩ := g _ c1
  exact ⟨d1, fun x hx => d2 _ (c2 _ (b2 _ (a3 x hx)))⟩

theorem idx_mem : ∀ {l : List Nat} {o : Nat}, o ∈ l → l[idx l o]? = some o
  | x :: r, o, h => by
    unfold idx
    cases hb : Nat.beq x o with
    | true => rw [Nat.eq_of_beq_eq_true hb]; rfl
    | false =>
      rcases List.mem_cons.1 h with rfl | h
      · rw [Nat.beq_refl] at hb; cases hb
      · simpa using idx_mem h
theorem idx_not : ∀ {l : List Nat} {o : Nat}, o ∉ l → idx l o = l.length
  | [], _, _ => rfl
  | x :: r, o, h => by
    unfold idx
    cases hb : Nat.beq x o with
    | true => exact absurd (Nat.eq_of_beq_eq_true hb) (fun e => h (by simp [e]))
    | false =>
      have := idx_not (l := r) (o := o) (fun h' => h (by simp [h']))
      simp [this]
theorem idx_get {l : List Nat} (hn : l.Nodup) {j o : Nat} (h : l[j]? = some o) : idx l o = j := by
  have h1 := idx_mem (List.mem_of_getElem? h)
  have hj := (List.getElem?_eq_some_iff.1 h)
  have hi := (List.getElem?_eq_some_iff.1 h1)
  obtain ⟨a, ha⟩ := hj
  obtain ⟨b, hb⟩ := hi
  exact (List.getElem_inj hn).1 (hb.trans ha.symm)

/-! ### Slices that are taken as they are -/
theorem slc_at (h : Inv E lk ι w) (hsub : ∀ o a, lk0 o = some a → lk o = some a) {x : LV} {v : Value} {t : RT} {xs : List (El t)} (hs : slc lk0 x = some ⟨t, xs⟩) (hr : x.noRo = true) (hf : t.flat = true) (hv : LRel E (sgOf lk) ι x v) :
    ∃ A c, v = .slice A xs.length c ∧ xs.length ≤ c ∧ xs.length ≤ maxLen ∧ ∀ ad, A = some ad → ∃ o ∈ x.ids, ∃ a, lk o = some a ∧ fp ι o a ad.block := by
  have own1 : ∀ {base n : Nat} {e : TypeId} {size : Nat} {v : Value} {cs : List Value}, w.ownsRow base e size v n cs → ∃ A c, v = .slice A n c ∧ n ≤ c ∧ n ≤ maxLen ∧ ∀ ad, A = some ad → v.ownBlock = some ad.block := by
    intro base n e size v cs h
    rcases h.2 with ⟨rfl, rfl⟩ | ⟨g, cap, cur, rfl, _, _, h1, h2, _⟩
    · exact ⟨none, 0, rfl, Nat.le_refl _, Nat.zero_le _, fun ad h => by cases h⟩
    · refine ⟨_, cap, rfl, h1, Nat.le_trans h1 h2, fun ad h => ?_⟩
      injection h with h
      subst h
      rfl
  cases x <;> simp only [slc] at hs <;> try (cases hs; done)
  case own o =>
    split at hs
    · rename_i e t' xs' ho
      have ho' := hsub _ _ ho
      injection hs with hs
      injection hs with e1 e2
      subst e1
      have e2 := eq_of_heq e2
      subst e2
      have := hv t' xs'.length (lens t' xs') (by simp [sgOf, ho', sig])
      subst this
      have hob : RowRel w ι o e t' xs' := h.ob o _ ho'
      obtain ⟨cs, hcs⟩ := hob.owns
      obtain ⟨A, c, h1, h2, h3, h4⟩ := own1 hcs
      exact ⟨A, c, h1, h2, h3, fun ad ha => ⟨o, by simp [LV.ids], _, ho', .inl (h4 ad ha)⟩⟩
    · cases hs
  case ro t' xs' => cases hr
  case view o lo hi =>
    split at hs
    · rename_i e t' xs' ho
      have ho' := hsub _ _ ho
      injection hs with hs
      injection hs with e1 e2
      subst e1
      have e2 := eq_of_heq e2
      subst e2
      obtain ⟨h1, h2, A, m, c, hA, rfl⟩ := hv t' xs'.length (lens t' xs') (by simp [sgOf, ho', sig])
      have hob : RowRel w ι o e t' xs' := h.ob o _ ho'
      obtain ⟨cs, hcs⟩ := hob.owns
      obtain ⟨A', c', k1, k2, k3, k4⟩ := own1 hcs
      rw [hA] at k1
      injection k1 with k1 k1' k1''
      subst k1; subst k1'; subst k1''
      have hl : ((xs'.take hi).drop lo).length = hi - lo := by simp; omega
      refine ⟨if c = lo then A else A.map (·.add (lo * t'.sz)), c - lo, by rw [hl], by omega, by omega, fun ad ha => ⟨o, by simp [LV.ids], _, ho', .inl ?_⟩⟩
      split at ha
      · exact k4 ad ha
      · cases hAA : A with
        | none => rw [hAA] at ha; cases ha
        | some ad' =>
          rw [hAA] at ha
          simp at ha
          subst ha
          rw [add_block]
          exact k4 ad' hAA
    · cases hs
  case inn o i =>
    split at hs
    · rename_i e t' xs' ho
      have ho' := hsub _ _ ho
      cases t' <;> simp only [inner] at hs <;> try (cases hs; done)
      rename_i e2 a
      injection hs with hs
      injection hs with e1 e2'
      subst e1
      have e2' := eq_of_heq e2'
      subst e2'
      obtain ⟨h1, rfl⟩ := hv (.list e2 a) xs'.length (lens _ xs') (by simp [sgOf, ho', sig])
      have hob : RowRel w ι o e (.list e2 a) xs' := h.ob o _ ho'
      obtain ⟨A, c, k1, k2, k3, k4⟩ := own1 (hob.2.2.1 i _ (getD_get h1 ([] : List (El a))))
      exact ⟨A, c, k1, k2, k3, fun ad ha => ⟨o, by simp [LV.ids], _, ho', .inr ⟨rfl, i, h1, k4 ad ha⟩⟩⟩
    · cases hs

theorem vals_SV : ∀ (t : RT) (x : El t), t.flat = true → SV E t x (vals t x)
  | .int _, _, _ => rfl
  | .bool, _, _ => rfl
  | .str, _, _ => rfl
  | .pair a b, x, hf => by
    simp [RT.flat] at hf
    exact ⟨_, _, rfl, vals_SV a x.1 hf.1, vals_SV b x.2 hf.2⟩
  | .list _ _, _, hf => by simp [RT.flat] at hf

theorem flat_pos : ∀ (t : RT), t.flat = true → 0 < t.sz
  | .int _, _ => Nat.one_pos
  | .bool, _ => Nat.one_pos
  | .str, _ => Nat.one_pos
  | .pair a b, h => by
    simp [RT.flat] at h
    have := flat_pos a h.1
    simp [RT.sz]; omega
  | .list _ _, _ => Nat.one_pos

theorem bif_some' {R : Type} {b : Bool} {k : Option R} {x : R} (h : (bif b then k else none) = some x) : b = true ∧ k = some x := by
  cases b with
  | true => exact ⟨rfl, h⟩
  | false => cases h

theorem slcOf_ro (h : Inv E lk ι w) (hsub : ∀ o a, lk0 o = some a → lk o = some a) (hu : Up E E') (hw : E'.w0 = w) {t : RT} (hf : t.flat = true) {x : LV} {ys : List (El t)} {v : Value} (hys : slcOf lk0 t x = some ys)
    (hS : ∀ o a k, o ∈ x.ids → lk o = some a → fp ι o a k → E'.S k) (hv : LRel E (sgOf lk) ι x v) : LRel E' (sgOf lk) ι (.ro t ys) v := by
  have hnil : x = .nils ∨ slc lk0 x = some ⟨t, ys⟩ := by
    unfold slcOf at hys
    split at hys
    · exact .inl rfl
    · split at hys
      · rename_i p hp
        obtain ⟨u, zs⟩ := p
        obtain ⟨e, rfl⟩ := castL_some hys
        subst e
        exact .inr hp
      · cases hys
  rcases hnil with rfl | hs
  · simp [slcOf] at hys
    subst hys
    have hv : v = _ := hv
    subst hv
    exact ⟨none, 0, rfl, Nat.le_refl _, Nat.zero_le _, fun hp => by simp at hp⟩
  · by_cases hro : ∃ u zs, x = .ro u zs
    · obtain ⟨u, zs, rfl⟩ := hro
      simp only [slc] at hs
      injection hs with hs
      injection hs with e1 e2
      subst e1
      have e2 := eq_of_heq e2
      subst e2
      exact hv.up hu
    · have hr : x.noRo = true := by
        cases x <;> first | rfl | (simp [slc] at hs; done) | skip
        rename_i u zs
        exact absurd ⟨u, zs, rfl⟩ hro
      obtain ⟨A, c, rfl, k1, k2, k3⟩ := slc_at h hsub hs hr hf hv
      obtain ⟨A', c', e, k4⟩ := slc_holds h hsub hs hf hv
      injection e with e _ _
      subst e
      refine ⟨A, c, rfl, k1, k2, fun hp => ?_⟩
      have hpos : 0 < (flatV t ys).length := by
        unfold flatV
        rw [fm_len (fun x => vals_len t x hf)]
        exact Nat.mul_pos hp (flat_pos t hf)
      obtain ⟨ad, hA, hc⟩ := k4 hpos
      obtain ⟨o, ho, a, ha, hfp⟩ := k3 ad hA
      refine ⟨ad, hA, hS o a _ ho ha hfp, fun j z hj => ⟨vals t z, vals_len t z hf, vals_SV t z hf, fun i q hi => ?_⟩⟩
      rw [hw]
      apply hc
      unfold flatV
      rw [fm_get (fun x => vals_len t x hf) hj]
      · exact hi
      · have := (List.getElem?_eq_some_iff.1 hi).1
        rwa [vals_len t z hf] at this

theorem toRows_sound (h : Inv E lk ι w) (hsub : ∀ o a, lk0 o = some a → lk o = some a) (hu : Up E E') (hw : E'.w0 = w) {e : TypeId} {t : RT} (hf : t.flat = true) : ∀ {vs : List LV} {cs : List Value} {ys : List (List (El t))} {b : List Nat}, toRows lk0 t vs = some (ys, b) →
    (∀ o a k, o ∈ b → lk o = some a → fp ι o a k → E'.S k) → F2 (LRel E (sgOf lk) ι) vs cs → ys.length = vs.length ∧ ∀ (j : Nat) (z : List (El t)), ys[j]? = some z → ∃ c, cs[j]? = some c ∧ SV E' (.list e t) z [c]
  | [], cs, ys, b, hr, _, hv => by
    simp [toRows] at hr
    obtain ⟨rfl, rfl⟩ := hr
    exact ⟨rfl, fun j z hj => by simp at hj⟩
  | x :: vs, cs, ys, b, hr, hS, hv => by
    simp only [toRows] at hr
    split at hr
    · rename_i y zs b' hy hz
      injection hr with hr
      injection hr with e1 e2
      subst e1; subst e2
      cases hv with
      | cons hx hvs =>
        rename_i c cs'
        obtain ⟨k1, k2⟩ := toRows_sound h hsub hu hw hf hz (fun o a k hm => hS o a k (by simp [hm])) hvs
        refine ⟨by simp [k1], fun j z hj => ?_⟩
        cases j with
        | zero =>
          have hj : y = z := by simpa using hj
          subst hj
          refine ⟨c, rfl, ?_⟩
          obtain ⟨A, n, hc, hn, hs⟩ := slcOf_ro h hsub hu hw hf hy (fun o a k hm => hS o a k (by simp [hm])) hx
          exact ⟨A, n, by rw [hc], hn, hs⟩
        | succ j =>
          obtain ⟨c', hc', hz'⟩ := k2 j z (by simpa using hj)
          exact ⟨c', by simpa using hc', hz'⟩
    · cases hr

/-- A slice of plain elements, taken as it is: its blocks are of those that stay now. -/
theorem toRo_sound (h : Inv E lk ι w) (hsub : ∀ o a, lk0 o = some a → lk o = some a) (hu : Up E E') (hw : E'.w0 = w) {m : Option RT} {x y : LV} {snap : List Nat} {v : Value} (ht : toRo lk0 m x = some (y, snap))
    (hS : ∀ o a k, o ∈ snap → lk o = some a → fp ι o a k → E'.S k) (hv : LRel E (sgOf lk) ι x v) : LRel E' (sgOf lk) ι y v := by
  unfold toRo at ht
  split at ht
  · rename_i e a o n
    split at ht
    · rename_i t vs ho
      obtain ⟨hb, ht⟩ := bif_some' ht
      simp only [Bool.and_eq_true] at hb
      obtain ⟨⟨haf, hlen⟩, hn⟩ := hb
      have hlen := Nat.eq_of_beq_eq_true hlen
      have hn := Nat.le_of_ble_eq_true hn
      obtain ⟨⟨ys, b⟩, hys, hp⟩ := Option.map_eq_some_iff.1 ht
      injection hp with h1 h2
      subst h1
      have ho' := hsub _ _ ho
      obtain ⟨g, hg, rfl⟩ := hv (by simp [sgOf, ho', sig])
      obtain ⟨g', cs, hg', hcs, h1c, hr⟩ := h.ob o _ ho'
      rw [hg] at hg'
      injection hg' with hg'; injection hg' with hg'; injection hg' with hg'
      subst hg'
      obtain ⟨hyl, hyr⟩ := toRows_sound h hsub hu hw haf hys (fun o a k hm => hS o a k (by rw [← h2]; simp [hm])) hr
      have hyn : ys.length = n := by rw [hyl, hlen]
      refine ⟨some ⟨g, 0, none⟩, n, by show _ = Value.slice _ ys.length n; rw [hyn], by show ys.length ≤ n; omega, by show ys.length ≤ maxLen; rw [hyn]; unfold maxLen; omega, fun hp => ?_⟩
      refine ⟨⟨g, 0, none⟩, rfl, hS o _ g (by rw [← h2]; simp) ho' (by exact hg), fun j z hj => ?_⟩
      obtain ⟨c, hc, hz⟩ := hyr j z hj
      refine ⟨[c], rfl, hz, fun i q hi => ?_⟩
      have : i = 0 ∧ c = q := by
        cases i with
        | zero => injection hi with hi; exact ⟨rfl, hi⟩
        | succ i => cases hi
      obtain ⟨rfl, rfl⟩ := this
      rw [hw]
      show w.cell? ((Addr.mk g 0 none).add (j * 1 + 0)) = some c
      rw [add_lit]
      simp only [World.cell?, hcs]
      simpa using hc
    · cases ht
  · simp at ht
    obtain ⟨rfl, rfl⟩ := ht
    exact hv.up hu
  · rename_i t u xs
    obtain ⟨ys, hys, hp⟩ := Option.map_eq_some_iff.1 ht
    injection hp with h1 h2
    obtain ⟨e, rfl⟩ := castL_some hys
    subst e
    subst h1
    exact hv.up hu
  · rename_i t _ _
    cases hf : t.flat with
    | false => rw [hf] at ht; cases ht
    | true =>
      rw [hf] at ht
      obtain ⟨ys, hys, hp⟩ := Option.map_eq_some_iff.1 ht
      injection hp with h1 h2
      subst h1
      exact slcOf_ro h hsub hu hw hf hys (fun o a k ho => hS o a k (by rw [← h2]; exact ho)) hv

theorem toRos_sound (h : Inv E lk ι w) (hsub : ∀ o a, lk0 o = some a → lk o = some a) (hu : Up E E') (hw : E'.w0 = w) : ∀ {m : List (Option RT)} {x y : List LV} {snap : List Nat} {v : List Value}, toRos lk0 m x = some (y, snap) →
    (∀ o a k, o ∈ snap → lk o = some a → fp ι o a k → E'.S k) → F2 (LRel E (sgOf lk) ι) x v → F2 (LRel E' (sgOf lk) ι) y v
  | [], [], y, snap, v, ht, _, hv => by
    simp [toRos] at ht
    obtain ⟨rfl, rfl⟩ := ht
    cases hv
    exact .nil
  | [], _ :: _, _, _, _, ht, _, _ => by simp [toRos] at ht
  | _ :: _, [], _, _, _, ht, _, _ => by simp [toRos] at ht
  | m :: ms, x :: xs, y, snap, v, ht, hS, hv => by
    simp only [toRos] at ht
    split at ht
    · rename_i z a zs b h1 h2
      injection ht with ht
      injection ht with e1 e2
      subst e1; subst e2
      cases hv with
      | cons hv hvs => exact .cons (toRo_sound h hsub hu hw h1 (fun o a k ho => hS o a k (by simp [ho])) hv) (toRos_sound h hsub hu hw h2 (fun o a k ho => hS o a k (by simp [ho])) hvs)
    · cases ht

theorem toRoA_sound (h : Inv E lk ι w) (hsub : ∀ o a, lk0 o = some a → lk o = some a) (hu : Up E E') (hw : E'.w0 = w) {m : List (Option RT)} {x y : AV} {snap : List Nat} {v : Value} (ht : toRoA lk0 m x = some (y, snap))
    (hS : ∀ o a k, o ∈ snap → lk o = some a → fp ι o a k → E'.S k) (hv : ARel E (sgOf lk) ι x v) : ARel E' (sgOf lk) ι y v := by
  unfold toRoA at ht
  split at ht
  · rename_i x
    split at ht
    · rename_i z a hz
      injection ht with ht
      injection ht with e1 e2
      subst e1; subst e2
      have := toRos_sound h hsub hu hw hz hS (.single hv)
      cases this with
      | cons h1 _ => exact h1
    · cases ht
  · rename_i l
    split at ht
    · rename_i zs a hz
      injection ht with ht
      injection ht with e1 e2
      subst e1; subst e2
      obtain ⟨cs, rfl, hr⟩ := hv
      exact ⟨cs, rfl, toRos_sound h hsub hu hw hz hS hr⟩
    · cases ht
  · cases ht

theorem toRoAs_sound (h : Inv E lk ι w) (hsub : ∀ o a, lk0 o = some a → lk o = some a) (hu : Up E E') (hw : E'.w0 = w) : ∀ {m : List (List (Option RT))} {x y : List AV} {snap : List Nat} {v : List Value}, toRoAs lk0 m x = some (y, snap) →
    (∀ o a k, o ∈ snap → lk o = some a → fp ι o a k → E'.S k) → F2 (ARel E (sgOf lk) ι) x v → F2 (ARel E' (sgOf lk) ι) y v
  | [], [], y, snap, v, ht, _, hv => by
    simp [toRoAs] at ht
    obtain ⟨rfl, rfl⟩ := ht
    cases hv
    exact .nil
  | [], _ :: _, _, _, _, ht, _, _ => by simp [toRoAs] at ht
  | _ :: _, [], _, _, _, ht, _, _ => by simp [toRoAs] at ht
  | m :: ms, x :: xs, y, snap, v, ht, hS, hv => by
    simp only [toRoAs] at ht
    split at ht
    · rename_i z a zs b h1 h2
      injection ht with ht
      injection ht with e1 e2
      subst e1; subst e2
      cases hv with
      | cons hv hvs => exact .cons (toRoA_sound h hsub hu hw h1 (fun o a k ho => hS o a k (by simp [ho])) hv) (toRoAs_sound h hsub hu hw h2 (fun o a k ho => hS o a k (by simp [ho])) hvs)
    · cases ht
end

end Go.Proofs.Ytiooamodldgalaa.Abs
