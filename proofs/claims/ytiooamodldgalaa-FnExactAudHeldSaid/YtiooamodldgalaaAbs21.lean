/-
Forgetting, renumbering; code; functions.
-/
import Derived.Test.YtiooamodldgalaaAbs20
namespace Go.Proofs.Ytiooamodldgalaa.Abs
open Go

section
variable {E : Ctx} {lk lk0 lk' : Nat → Option AO} {ι ι' : Im} {w w' : World} {P : Program} {T : Env} {sg sg' : Nat → Option Sig}

/-- Fewer objects, under other numbers. -/
theorem Inv.weak (h : Inv E lk ι w) (b : Nat → Nat) (hb : ∀ o a', lk' o = some a' → ∃ a, lk (b o) = some a ∧ ORel E (sgOf lk') ι' w o a' ∧ ∀ k, fp ι' o a' k → fp ι (b o) a k)
    (inj : ∀ o p, (lk' o).isSome = true → (lk' p).isSome = true → b o = b p → o = p) : Inv E lk' ι' w := by
  constructor
  · intro o a ho
    obtain ⟨_, _, h2, _⟩ := hb o a ho
    exact h2
  · intro o p a a' ho hp hne k hk hk'
    obtain ⟨c, h1, _, h3⟩ := hb o a ho
    obtain ⟨c', h1', _, h3'⟩ := hb p a' hp
    exact h.dj (b o) (b p) c c' h1 h1' (fun e => hne (inj o p (by rw [ho]; rfl) (by rw [hp]; rfl) e)) k (h3 k hk) (h3' k hk')
  · intro o a k ho hk
    obtain ⟨c, h1, _, h3⟩ := hb o a ho
    exact h.bd (b o) c k h1 (h3 k hk)
  · exact h.sz
  · exact h.os
  · exact h.tape
  · exact h.out
  · exact h.fr
  · exact h.st

/-! ### Forgetting -/
theorem LV.drop_ids {p : Nat → Bool} {x : LV} : ∀ o ∈ (x.drop p).ids, p o = false ∧ o ∈ x.ids := by
  unfold LV.drop
  intro o ho
  cases hb : x.ids.any p with
  | true => rw [hb] at ho; cases ho
  | false =>
    rw [hb] at ho
    rw [List.any_eq_false] at hb
    have := hb o ho
    exact ⟨by simpa using this, ho⟩
theorem LRel.drop {p : Nat → Bool} {x : LV} {v : Value} (h : LRel E sg ι x v) : LRel E sg ι (x.drop p) v := by
  unfold LV.drop
  cases x.ids.any p with
  | true => exact trivial
  | false => exact h
theorem LRels.drop {p : Nat → Bool} {l : List LV} {cs : List Value} (h : F2 (LRel E sg ι) l cs) : F2 (LRel E sg ι) (l.map (LV.drop p)) cs :=
  F2.mapl (h.imp fun _ _ _ _ h => h.drop)
theorem CRel.drop {p : Nat → Bool} {x : CV} {v : Value} (h : CRel E sg ι x v) : CRel E sg ι (x.drop p) v := by
  cases x with
  | leaf x => exact LRel.drop h
  | agg l =>
    obtain ⟨cs, hv, h⟩ := h
    exact ⟨cs, hv, LRels.drop h⟩
theorem ARel.drop {p : Nat → Bool} {x : AV} {v : Value} (h : ARel E sg ι x v) : ARel E sg ι (x.drop p) v := by
  cases x with
  | c x => exact CRel.drop h
  | tup l =>
    obtain ⟨cs, hv, h⟩ := h
    exact ⟨cs, hv, F2.mapl (h.imp fun _ _ _ _ h => h.drop)⟩
theorem CV.drop_ids {p : Nat → Bool} {x : CV} : ∀ o ∈ (x.drop p).ids, p o = false := by
  cases x with
  | leaf x => exact fun o ho => (LV.drop_ids o ho).1
  | agg l =>
    intro o ho
    obtain ⟨y, hy, hy'⟩ := List.mem_flatMap.1 ho
    obtain ⟨z, _, rfl⟩ := List.mem_map.1 hy
    exact (LV.drop_ids o hy').1
theorem AV.drop_ids {p : Nat → Bool} {x : AV} : ∀ o ∈ (x.drop p).ids, p o = false := by
  cases x with
  | c x => exact CV.drop_ids
  | tup l =>
    intro o ho
    obtain ⟨y, hy, hy'⟩ := List.mem_flatMap.1 ho
    obtain ⟨z, _, rfl⟩ := List.mem_map.1 hy
    exact CV.drop_ids o hy'
theorem AO.drop_ids {p : Nat → Bool} {x : AO} : ∀ o ∈ (x.drop p).ids, p o = false := by
  cases x with
  | cells t vs =>
    intro o ho
    obtain ⟨y, hy, hy'⟩ := List.mem_flatMap.1 ho
    obtain ⟨z, _, rfl⟩ := List.mem_map.1 hy
    exact (LV.drop_ids o hy').1
  | rows e t xs => intro o ho; cases ho
  | mset es => intro o ho; cases ho
theorem sig_drop {p : Nat → Bool} (a : AO) : sig (a.drop p) = sig a := by cases a <;> rfl
theorem fp_drop {p : Nat → Bool} {o : Nat} {a : AO} (k : Nat) : fp ι o (a.drop p) k ↔ fp ι o a k := by cases a <;> rfl
theorem ORel.drop {p : Nat → Bool} {o : Nat} {a : AO} (h : ORel E sg ι w o a) : ORel E sg ι w o (a.drop p) := by
  cases a with
  | cells t vs =>
    obtain ⟨g, cs, hv, hg, h1, hr⟩ := h
    exact ⟨g, cs, hv, hg, h1, LRels.drop hr⟩
  | rows e t xs => exact h
  | mset es => exact h

theorem lku_dropO {p : Nat → Bool} : ∀ {l : Objs} {o : Nat}, lku (dropO p l) o = bif p o then none else (lku l o).map (AO.drop p)
  | [], o => by cases h : p o <;> simp [dropO, lku]
  | (k, a) :: r, o => by
    have ih := lku_dropO (p := p) (l := r) (o := o)
    simp only [dropO]
    cases hb : Nat.beq k o with
    | true =>
      have := Nat.eq_of_beq_eq_true hb
      subst this
      cases hp : p k with
      | true => rw [hp] at ih; exact ih
      | false => simp [lku, Nat.beq_refl]
    | false =>
      cases hp : p k with
      | true => simp only [cond_true, lku, hb, cond_false]; exact ih
      | false => simp only [cond_false, lku, hb]; exact ih

theorem Rel.drop {st : St} {a : Act} (h : Rel E st.sem ι a w) (p : Nat → Bool) {np : Nat} : Rel E (st.drop p).sem ι a w ∧ Keep np st.sem.lk (st.drop p).sem.lk ι ι := by
  have hlk : ∀ o, (st.drop p).sem.lk o = bif p o then none else (lku st.ob o).map (AO.drop p) := fun o => lku_dropO
  have hfit : ∀ o, Fits (sgOf st.sem.lk) (sgOf (st.drop p).sem.lk) ι ι o := by
    intro o
    cases hp : p o with
    | true =>
      refine .inl ?_
      simp [sgOf, hlk, hp]
    | false =>
      refine .inr ⟨?_, rfl, fun _ => rfl⟩
      simp only [sgOf, hlk, hp, cond_false, Option.map_map]
      show _ = (lku st.ob o).map sig
      cases lku st.ob o <;> simp [sig_drop]
  refine ⟨⟨?_, ?_, h.df⟩, fun o _ => hfit o⟩
  · refine h.inv.weak id (fun o a' ha => ?_) (fun _ _ _ _ e => e)
    rw [hlk] at ha
    cases hp : p o with
    | true => rw [hp] at ha; cases ha
    | false =>
      rw [hp] at ha
      obtain ⟨b, hb, rfl⟩ := Option.map_eq_some_iff.1 ha
      refine ⟨b, hb, ?_, fun k hk => (fp_drop k).1 hk⟩
      exact ((h.inv.ob o b hb).drop (p := p)).move (fun _ _ => rfl) rfl (fun _ => rfl) fun q _ => hfit q
  · refine F2.mapl (h.tm.imp fun x v _ _ hr => hr.drop.mono fun o _ => hfit o)

theorem Rel.clear {st : St} {a : Act} (h : Rel E st.sem ι a w) (ops : List Oper) {np : Nat} : Rel E (st.clear ops).sem ι a w ∧ Keep np st.sem.lk (st.clear ops).sem.lk ι ι := by
  unfold St.clear
  split
  · exact ⟨h, Keep.refl np⟩
  · exact h.drop _

/-! ### Renumbering -/
theorem pick_eq (lk : Nat → Option AO) (f : Nat → AO → Nat × AO) : ∀ l : List Nat, pick lk f l = l.filterMap fun o => (lk o).map (f o)
  | [] => rfl
  | o :: r => by
    simp only [pick, List.filterMap_cons]
    cases lk o with
    | none => simpa using pick_eq lk f r
    | some a => simpa using pick_eq lk f r

theorem canon_spec (np : Nat) (lk : Nat → Option AO) (roots : List Nat) : (canon np lk roots).Nodup ∧ ∀ o ∈ canon np lk roots, np ≤ o ∧ (lk o).isSome = true := by
  unfold canon
  refine ⟨(reach_spec lk _).1.filter _, fun o ho => ?_⟩
  have := (List.mem_filter.1 ho).2
  simp only [Bool.and_eq_true, Bool.not_eq_true'] at this
  refine ⟨?_, this.1⟩
  rcases Nat.lt_or_ge o np with h | h
  · rw [blt_iff.2 h] at this; cases this.2
  · exact h

theorem rn_lt {np : Nat} {L : List Nat} {o : Nat} (h : o < np) : rn np L o = o := by simp [rn, blt_iff.2 h]
theorem rn_ge {np : Nat} {L : List Nat} {o : Nat} (h : np ≤ o) : rn np L o = np + idx L o := by
  have : Nat.blt o np = false := by
    cases hb : Nat.blt o np with
    | false => rfl
    | true => have := blt_iff.1 hb; omega
  simp [rn, this]

/-- Renumbered: what values and objects say is kept. -/
theorem norm_ok {st : SSt} (h : Inv E st.lk ι w) {np : Nat} {L : List Nat} (hnd : L.Nodup) (hL : ∀ o ∈ L, np ≤ o ∧ (st.lk o).isSome = true) :
    ∃ ι', Inv E (lku (relabel np st.lk L)) ι' w ∧ (∀ o, FitsR (sgOf st.lk) (sgOf (lku (relabel np st.lk L))) ι ι' o (rn np L o)) ∧ Keep np st.lk (lku (relabel np st.lk L)) ι ι' := by
  have hrel : relabel np st.lk L = (List.range np ++ L).filterMap fun o => (st.lk o).map fun a => (rn np L o, (a.drop (dead st.lk)).ren (rn np L)) := pick_eq _ _ _
  have hmem : ∀ o, o ∈ List.range np ++ L ↔ o < np ∨ o ∈ L := fun o => by rw [List.mem_append, List.mem_range]
  have inj : ∀ o ∈ List.range np ++ L, ∀ p ∈ List.range np ++ L, rn np L p = rn np L o → p = o := by
    intro o ho p hp e
    rcases (hmem o).1 ho with ho | ho <;> rcases (hmem p).1 hp with hp | hp
    · rwa [rn_lt ho, rn_lt hp] at e
    · rw [rn_lt ho, rn_ge (hL p hp).1] at e; omega
    · rw [rn_lt hp, rn_ge (hL o ho).1] at e; omega
    · rw [rn_ge (hL o ho).1, rn_ge (hL p hp).1] at e
      have h1 := idx_mem ho
      have h2 := idx_mem hp
      rw [show idx L p = idx L o by omega, h1] at h2
      injection h2 with h2
      exact h2.symm
  have hlk : ∀ o ∈ List.range np ++ L, lku (relabel np st.lk L) (rn np L o) = (st.lk o).map fun a => (a.drop (dead st.lk)).ren (rn np L) := by
    intro o ho
    rw [hrel]
    exact lku_objs (f := fun a => (a.drop (dead st.lk)).ren (rn np L)) ho (inj o ho)
  have hsome : ∀ q a', lku (relabel np st.lk L) q = some a' → ∃ o a, o ∈ List.range np ++ L ∧ q = rn np L o ∧ st.lk o = some a ∧ a' = (a.drop (dead st.lk)).ren (rn np L) := by
    intro q a' hq
    have hm := lku_mem hq
    rw [hrel] at hm
    obtain ⟨o, ho, e⟩ := List.mem_filterMap.1 hm
    obtain ⟨a, _, e⟩ := Option.map_eq_some_iff.1 e
    injection e with e1 e2
    have := hlk o ho
    rw [e1, hq] at this
    obtain ⟨b, hb, hba⟩ := Option.map_eq_some_iff.1 this.symm
    exact ⟨o, b, ho, e1.symm, hb, hba.symm⟩
  let b : Nat → Nat := fun q => if q < np then q else L.getD (q - np) 0
  have hb : ∀ o ∈ List.range np ++ L, b (rn np L o) = o := by
    intro o ho
    rcases (hmem o).1 ho with ho | ho
    · rw [rn_lt ho]; simp [b, ho]
    · rw [rn_ge (hL o ho).1]
      show (if np + idx L o < np then np + idx L o else L.getD (np + idx L o - np) 0) = o
      rw [if_neg (by omega), Nat.add_sub_cancel_left, List.getD_eq_getElem?_getD, idx_mem ho]
      rfl
  let ι' : Im := ⟨fun q => ι.v (b q), fun q => ι.v2 (b q)⟩
  have hfit : ∀ o, FitsR (sgOf st.lk) (sgOf (lku (relabel np st.lk L))) ι ι' o (rn np L o) := by
    intro o
    by_cases ho : o ∈ List.range np ++ L
    · refine .inr ⟨?_, ?_, fun i => ?_⟩
      · simp only [sgOf, hlk o ho, Option.map_map]
        cases st.lk o <;> simp [sig_ren, sig_drop]
      · show ι.v (b (rn np L o)) = _
        rw [hb o ho]
      · show ι.v2 (b (rn np L o)) i = _
        rw [hb o ho]
    · refine .inl ?_
      have h1 : ¬ o < np := fun h => ho ((hmem o).2 (.inl h))
      have h2 : o ∉ L := fun h => ho ((hmem o).2 (.inr h))
      cases hq : lku (relabel np st.lk L) (rn np L o) with
      | none => simp [sgOf, hq]
      | some a' =>
        exfalso
        obtain ⟨p, a, hp, e, _⟩ := hsome _ _ hq
        rw [rn_ge (by omega), idx_not h2] at e
        rcases (hmem p).1 hp with hp | hp
        · rw [rn_lt hp] at e; omega
        · rw [rn_ge (hL p hp).1] at e
          have := (List.getElem?_eq_some_iff.1 (idx_mem hp)).1
          omega
  refine ⟨ι', h.weak b (fun q a' hq => ?_) (fun q p hq hp e => ?_), hfit, fun o ho => ?_⟩
  · obtain ⟨o, a, ho, rfl, hlo, rfl⟩ := hsome q a' hq
    rw [hb o ho]
    refine ⟨a, hlo, ?_, fun k hk => ?_⟩
    · exact ((h.ob o a hlo).drop).ren (by show ι.v (b _) = _; rw [hb o ho]) (fun i => by show ι.v2 (b _) i = _; rw [hb o ho]) fun p _ => hfit p
    · rw [fp_ren (by show ι.v (b _) = _; rw [hb o ho]) (fun i => by show ι.v2 (b _) i = _; rw [hb o ho]), fp_drop] at hk
      exact hk
  · obtain ⟨aq, hq⟩ := Option.isSome_iff_exists.1 hq
    obtain ⟨ap, hp⟩ := Option.isSome_iff_exists.1 hp
    obtain ⟨o, _, ho, rfl, _⟩ := hsome _ _ hq
    obtain ⟨o', _, ho', rfl, _⟩ := hsome _ _ hp
    rw [hb o ho, hb o' ho'] at e
    rw [e]
  · have := hfit o
    rw [rn_lt ho] at this
    exact this

theorem keepT_rel {live : List Nat} : ∀ {i : Nat} {tm : List AV} {vs : List Value}, F2 (ARel E sg ι) tm vs → F2 (ARel E sg ι) (keepT live i tm) vs
  | _, _, _, .nil => .nil
  | i, v :: r, _, .cons h hr => by
    simp only [keepT]
    refine .cons ?_ (keepT_rel hr)
    cases live.any (Nat.beq i) with
    | true => exact h
    | false => exact trivial

theorem Rel.norm {st : St} {a : Act} (h : Rel E st.sem ι a w) (np : Nat) (live : List Nat) : ∃ ι', Rel E (st.norm np live).sem ι' a w ∧ Keep np st.sem.lk (st.norm np live).sem.lk ι ι' := by
  unfold St.norm
  dsimp only
  generalize htm : (keepT live 0 st.tm).map (AV.drop (dead (lku st.ob))) = tm
  obtain ⟨hnd, hL⟩ := canon_spec np (lku st.ob) (tm.flatMap AV.ids)
  obtain ⟨ι', h1, h2, h3⟩ := norm_ok (st := st.sem) h.inv hnd hL
  refine ⟨ι', ⟨h1, ?_, h.df⟩, h3⟩
  have : F2 (ARel E (sgOf st.sem.lk) ι) tm a.tmps.toList := by
    rw [← htm]
    exact F2.mapl ((keepT_rel h.tm).imp fun _ _ _ _ hr => hr.drop)
  exact F2.mapl (this.imp fun x v _ _ hr => hr.ren fun o _ => h2 o)

/-! ### Nil slices -/
theorem nil_rows (w : World) (ι : Im) (n : Nat) (hn : ι.v n = .slice none 0 0) (e : TypeId) {t : RT} (ht : t.plain = true) : RowRel w ι n e t [] := by
  have h0 : ∀ size, w.ownsRow 0 e size (.slice none 0 0) 0 [] := fun size => ⟨by simp, .inl ⟨rfl, rfl⟩⟩
  cases t with
  | list e2 a =>
    refine ⟨ht, by rw [hn]; exact h0 1, fun i x hx => by simp at hx, fun i k hi => by simp at hi, fun i j k hi => by simp at hi⟩
  | _ => exact ⟨ht, by rw [hn]; exact h0 _⟩

theorem set_same {α : Type} {l : List α} {j : Nat} {v : α} (h : l[j]? = some v) : l.set j v = l := by
  obtain ⟨hlt, hget⟩ := List.getElem?_eq_some_iff.1 h
  rw [← hget, List.set_getElem_self]

theorem isNils_eq {x : LV} (h : x.isNils = true) : x = .nils := by cases x <;> first | rfl | cases h

/-- A new number for a nil slice. -/
theorem Inv.nil (h : Inv E lk ι w) {n : Nat} (hn : lk n = none) (hfr : ∀ o a, lk o = some a → n ∉ a.ids) (e : TypeId) {t : RT} (ht : t.plain = true) :
    Inv E (upd lk n (some (.rows e t []))) (ι.put n (.slice none 0 0) (fun _ => .slice none 0 0)) w := by
  refine h.new hn hfr (nil_rows w _ n (put_same ι n _ _).1 e ht) (fun k hk => ?_) (fun _ _ => rfl) (Nat.le_refl _) rfl rfl rfl
  rcases hk with hk | ⟨_, i, hi, _⟩
  · rw [(put_same ι n _ _).1] at hk; cases hk
  · simp at hi

theorem lku_cons (n : Nat) (a : AO) (l : Objs) : lku ((n, a) :: l) = upd (lku l) n (some a) := by
  funext o
  simp only [lku]
  cases hb : Nat.beq n o with
  | true => rw [Nat.eq_of_beq_eq_true hb, upd_same]; rfl
  | false =>
    rw [upd_ne]
    · rfl
    · intro e; rw [e, Nat.beq_refl] at hb; cases hb

theorem lifted {n : Nat} {l : List LV} {cs : List Value} {j : Nat} (hnil : nilAt l j = true) (h : F2 (LRel E sg ι) l cs) (hn : sg n = none ∨ ι.v n = .slice none 0 0) : F2 (LRel E sg ι) (l.set j (.own n)) cs := by
  unfold nilAt at hnil
  split at hnil
  · rename_i x hx
    have := isNils_eq hnil
    subst this
    obtain ⟨v, hv, hr⟩ := h.get hx
    have hr : v = .slice none 0 0 := hr
    subst hr
    have := h.set j (a := .own n) (b := .slice none 0 0) (by
      intro t m ls hs
      rcases hn with hn | hn
      · rw [hn] at hs; cases hs
      · exact hn.symm)
    rwa [set_same hv] at this
  · cases hnil

theorem Rel.lift1 {st : St} {a : Act} (h : Rel E st.sem ι a w) (i : Nat) (s : Lift) {np : Nat} (hnp : np ≤ 64) : ∃ ι', Rel E (st.lift1 i s).sem ι' a w ∧ Keep np st.sem.lk (st.lift1 i s).sem.lk ι ι' := by
  have stay : ∃ ι', Rel E st.sem ι' a w ∧ Keep np st.sem.lk st.sem.lk ι ι' := ⟨ι, h, Keep.refl _⟩
  unfold St.lift1
  cases hc : (s.rt.plain && fresh (liftId i) st) with
  | false => exact stay
  | true =>
    simp only [Bool.and_eq_true] at hc
    obtain ⟨hp, hf⟩ := hc
    have ht := fresh_tells hf
    generalize hn : liftId i = n at *
    have hge : 64 ≤ n := by rw [← hn]; unfold liftId; omega
    have hl0 : lku st.ob n = none := by
      cases hl : lku st.ob n with
      | none => rfl
      | some b => exact absurd (.inr (.inl (by show (lku st.ob n).isSome = true; rw [hl]; rfl))) ht
    have hfr : ∀ o a, lku st.ob o = some a → n ∉ a.ids := fun o a ho hm => ht (.inr (.inr ⟨o, a, ho, hm⟩))
    have hinv : Inv E (upd (lku st.ob) n (some (.rows s.e s.rt []))) (ι.put n (.slice none 0 0) (fun _ => .slice none 0 0)) w := Inv.nil (lk := lku st.ob) h.inv hl0 hfr s.e hp
    generalize hι : ι.put n (.slice none 0 0) (fun _ => .slice none 0 0) = ι1 at *
    have hv1 : ι1.v n = .slice none 0 0 := by rw [← hι]; exact (put_same ι n _ _).1
    have hfit : ∀ o, o ≠ n → Fits (sgOf (lku st.ob)) (sgOf (upd (lku st.ob) n (some (.rows s.e s.rt [])))) ι ι1 o := fun o ho => by rw [← hι]; exact Fits.new ho
    have htm : F2 (ARel E (sgOf (upd (lku st.ob) n (some (.rows s.e s.rt [])))) ι1) st.tm a.tmps.toList :=
      h.tm.imp fun x v hx _ hr => hr.mono fun o ho => hfit o fun e => ht (.inl ⟨x, hx, e ▸ ho⟩)
    have hkeep : Keep np (lku st.ob) (upd (lku st.ob) n (some (.rows s.e s.rt []))) ι ι1 := fun o ho => hfit o (by omega)
    dsimp only [cond_true]
    split
    · rename_i v hthru
      split
      · rename_i v' hv'
        refine ⟨ι1, ⟨?_, ?_, h.df⟩, ?_⟩
        · show Inv E (lku ((n, _) :: st.ob)) ι1 w
          rw [lku_cons]; exact hinv
        · show F2 (ARel E (sgOf (lku ((n, _) :: st.ob))) ι1) (st.tm.set s.t v') a.tmps.toList
          rw [lku_cons]
          have hset : ∀ (x : AV), liftAV n s.j x = some v' → ∀ y, ARel E (sgOf (upd (lku st.ob) n (some (.rows s.e s.rt [])))) ι1 x y → ARel E (sgOf (upd (lku st.ob) n (some (.rows s.e s.rt [])))) ι1 v' y := by
            intro x hx y hr
            unfold liftAV at hx
            split at hx
            · rename_i z
              obtain ⟨hb, hx⟩ := bif_some hx
              injection hx with hx
              subst hx
              simp only [Bool.and_eq_true] at hb
              have := isNils_eq hb.2
              subst this
              have hr : y = .slice none 0 0 := hr
              intro t m ls _
              rw [hr, hv1]
            · rename_i l
              obtain ⟨hb, hx⟩ := bif_some hx
              injection hx with hx
              subst hx
              obtain ⟨cs, rfl, hr⟩ := hr
              exact ⟨cs, rfl, lifted hb hr (.inr hv1)⟩
            · cases hx
          rw [List.getD_eq_getElem?_getD] at hv'
          cases hg : st.tm[s.t]? with
          | none => rw [hg] at hv'; simp [liftAV, AV.undef, LV.isNils] at hv'
          | some x =>
            rw [hg] at hv'
            obtain ⟨y, hy, hr⟩ := htm.get hg
            have := htm.set s.t (hset x hv' y hr)
            rwa [set_same hy] at this
        · show Keep np (lku st.ob) (lku ((n, _) :: st.ob)) ι ι1
          rw [lku_cons]; exact hkeep
      · exact stay
    · rename_i o off hthru hv
      split
      · rename_i ty vs hlo
        cases hb : nilAt vs (off + s.j) with
        | false => exact stay
        | true =>
          dsimp only [cond_true]
          have hne : o ≠ n := fun e => by rw [e, hl0] at hlo; cases hlo
          have hlo1 : upd (lku st.ob) n (some (.rows s.e s.rt [])) o = some (.cells ty vs) := by rw [upd_ne _ _ hne]; exact hlo
          have elk : lku ((n, .rows s.e s.rt []) :: replO [(o, .cells ty (vs.set (off + s.j) (.own n)))] st.ob) = upd (upd (lku st.ob) n (some (.rows s.e s.rt []))) o (some (.cells ty (vs.set (off + s.j) (.own n)))) := by
            funext q
            rw [lku_cons]
            by_cases hq : q = n
            · subst hq
              rw [upd_same, upd_ne _ _ (fun e => hne e.symm), upd_same]
            · rw [upd_ne _ _ hq, lku_replO]
              by_cases hqo : q = o
              · subst hqo
                rw [upd_same, hlo]
                simp [lku, Nat.beq_refl]
              · have : Nat.beq o q = false := by
                  cases hb : Nat.beq o q with
                  | false => rfl
                  | true => exact absurd (Nat.eq_of_beq_eq_true hb).symm hqo
                rw [upd_ne _ _ hqo, upd_ne _ _ hq]
                simp only [lku, this, cond_false]
                cases lku st.ob q <;> rfl
          obtain ⟨g, cs, hg, hcs, h1, hr⟩ := hinv.ob o _ hlo1
          have hset := hinv.set (w' := w) (b := .cells ty (vs.set (off + s.j) (.own n))) hlo1 rfl ⟨g, cs, hg, hcs, h1, lifted hb hr (.inr hv1)⟩ (fun k hk => hk) (fun _ _ _ => rfl) rfl rfl rfl rfl
          refine ⟨ι1, ⟨?_, ?_, h.df⟩, ?_⟩
          · show Inv E (lku ((n, AO.rows s.e s.rt []) :: replO [(o, AO.cells ty (vs.set (off + s.j) (LV.own n)))] st.ob)) ι1 w
            rw [elk]; exact hset.1
          · show F2 (ARel E (sgOf (lku ((n, AO.rows s.e s.rt []) :: replO [(o, AO.cells ty (vs.set (off + s.j) (LV.own n)))] st.ob))) ι1) st.tm a.tmps.toList
            rw [elk, hset.2]; exact htm
          · show Keep np (lku st.ob) (lku ((n, AO.rows s.e s.rt []) :: replO [(o, AO.cells ty (vs.set (off + s.j) (LV.own n)))] st.ob)) ι ι1
            rw [elk]
            intro q hq
            have := hkeep q hq
            rw [← hset.2] at this
            exact this
      · exact stay
    · exact stay

theorem Rel.lift {a : Act} {np : Nat} (hnp : np ≤ 64) : ∀ (l : List Lift) (i : Nat) {st : St} {ι : Im}, Rel E st.sem ι a w → ∃ ι', Rel E (St.lift l i st).sem ι' a w ∧ Keep np st.sem.lk (St.lift l i st).sem.lk ι ι'
  | [], _, _, ι, h => ⟨ι, h, Keep.refl _⟩
  | s :: r, i, st, ι, h => by
    obtain ⟨ι1, h1, k1⟩ := h.lift1 i s hnp
    obtain ⟨ι2, h2, k2⟩ := Rel.lift hnp r (i + 1) h1 (st := st.lift1 i s)
    exact ⟨ι2, h2, k1.trans k2⟩

theorem Rel.head {st : St} {a : Act} (h : Rel E st.sem ι a w) {np : Nat} (hnp : np ≤ 64) (hd : Hd) : ∃ ι', Rel E (st.head np hd).sem ι' a w ∧ Keep np st.sem.lk (st.head np hd).sem.lk ι ι' := by
  obtain ⟨ι1, h1, k1⟩ := Rel.lift hnp hd.lifts 0 h (st := st)
  obtain ⟨ι2, h2, k2⟩ := h1.norm np hd.live
  exact ⟨ι2, h2, k1.trans k2⟩

/-! ### Code -/
def exOf : Ex → Exit
  | .normal => .normal
  | .exit i => .exit i
  | .ret => .ret

theorem region_sound (hT : EnvOk P T) (hm : P.follows .mixedOrders = true) (hnp : T.np ≤ 64) {R : Type} {id : Nat} {ops : Array Oper} {draw : Bool} {st : St} {K : St → Option R} {r : R} (he : evRegion T id ops.toList draw st K = some r) {a : Act} (hr : Rel E st.sem ι a w)
    {Q : Exit → Act → World → Prop} (hq : ∀ st' ι' a' w', K st' = some r → Rel E st'.sem ι' a' w' → Keep T.np st.sem.lk st'.sem.lk ι ι' → Q .normal a' w') : (Code.region id ops draw).wp P Q a w := by
  rw [evRegion_eq] at he
  unfold evBody at he
  have h0 : ∃ st0 ι0, headed T id st = st0 ∧ Rel E st0.sem ι0 a w ∧ Keep T.np st.sem.lk st0.sem.lk ι ι0 := by
    unfold headed
    split
    · rename_i hd _
      obtain ⟨ι', h1, h2⟩ := hr.head hnp hd
      exact ⟨_, ι', rfl, h1, h2⟩
    · exact ⟨_, ι, rfl, hr, Keep.refl _⟩
  obtain ⟨st0, ι0, e0, hr0, hk0⟩ := h0
  rw [e0] at he
  obtain ⟨hr1, hk1⟩ := hr0.clear ops.toList (np := T.np)
  generalize st0.clear ops.toList = st1 at *
  cases draw with
  | false =>
    obtain ⟨es, st', ht, hos, hk⟩ := evOps_trace he
    exact seq_region hT hnp (Nat.le_refl _) ht hos hr1 fun ι' a' w' hr' hk' => hq st' ι' a' w' hk hr' ((hk0.trans hk1).trans hk')
  | true =>
    have he : drawn T ops.toList st1 K = some r := he
    unfold drawn at he
    obtain ⟨es, st', ht, hos, hk⟩ := evOps_trace he
    obtain ⟨hok, hk⟩ := bif_some hk
    simp only [List.append_nil, List.reverse_reverse] at hok
    exact any_region hT hm hnp ⟨ht, hos, hok⟩ hr1 fun ι' a' w' hr' hk' => hq st' ι' a' w' hk hr' ((hk0.trans hk1).trans hk')

theorem wp_loop_n {c : Code} {Q : Exit → Act → World → Prop} (I : Nat → Act → World → Prop) (round : ∀ n a w, I n a w → c.wp P (Exit.then (fun a' w' => ∃ m, m < n ∧ I m a' w') Q) a w) {n : Nat} {a : Act} (h0 : I n a w) : (Code.loop c).wp P Q a w := by
  classical
  have hmin : ∀ a w, (∃ n, I n a w) → ∃ n, I n a w ∧ ∀ m, I m a w → n ≤ m := by
    intro a w ⟨n, hn⟩
    induction n using Nat.strongRecOn with
    | _ n ih =>
      by_cases hx : ∃ m, m < n ∧ I m a w
      · obtain ⟨m, hm, hI⟩ := hx
        exact ih m hm hI
      · exact ⟨n, hn, fun m hI => Nat.le_of_not_lt fun hlt => hx ⟨m, hlt, hI⟩⟩
  let μ : Act → World → Nat := fun a w => if h : ∃ n, I n a w then Classical.choose (hmin a w h) else 0
  refine wp_loop (fun a w => ∃ n, I n a w) μ ⟨n, h0⟩ fun a w hex => ?_
  have hμ : I (μ a w) a w := by
    show I (if h : ∃ n, I n a w then Classical.choose (hmin a w h) else 0) a w
    rw [dif_pos hex]
    exact (Classical.choose_spec (hmin a w hex)).1
  refine wp_mono (round _ a w hμ) fun e a' w' h => ?_
  cases e with
  | normal =>
    obtain ⟨m, hm, hI⟩ := h
    refine ⟨⟨m, hI⟩, Nat.lt_of_le_of_lt ?_ hm⟩
    show (if h : ∃ n, I n a' w' then Classical.choose (hmin a' w' h) else 0) ≤ m
    rw [dif_pos ⟨m, hI⟩]
    exact (Classical.choose_spec (hmin a' w' ⟨m, hI⟩)).2 m hI
  | _ => exact h

theorem code_sound (hT : EnvOk P T) (hm : P.follows .mixedOrders = true) (hnp : T.np ≤ 64) {R : Type} {r : R} : ∀ (c : Code) {st : St} {K : Ex → St → Option R}, evCode T c st K = some r → ∀ {ι : Im} {a : Act} {w : World}, Rel E st.sem ι a w →
    ∀ {Q : Exit → Act → World → Prop}, (∀ e st' ι' a' w', K e st' = some r → Rel E st'.sem ι' a' w' → Keep T.np st.sem.lk st'.sem.lk ι ι' → Q (exOf e) a' w') → c.wp P Q a w := by
  intro c
  induction c with
  | skip =>
    intro st K he ι a w hr Q hq
    exact wp_skip (hq .normal st ι a w he hr (Keep.refl _))
  | region id ops draw =>
    intro st K he ι a w hr Q hq
    exact region_sound hT hm hnp he hr fun st' ι' a' w' hk hr' hk' => hq .normal st' ι' a' w' hk hr' hk'
  | seq x y ihx ihy =>
    intro st K he ι a w hr Q hq
    refine wp_seq (ihx he hr fun e st' ι' a' w' hk hr' hk' => ?_)
    cases e with
    | normal => exact ihy hk hr' fun e st'' ι'' a'' w'' hk2 hr2 hkp => hq e st'' ι'' a'' w'' hk2 hr2 (hk'.trans hkp)
    | exit i => exact hq (.exit i) st' ι' a' w' hk hr' hk'
    | ret => exact hq .ret st' ι' a' w' hk hr' hk'
  | cond c x y ihx ihy =>
    intro st K he ι a w hr Q hq
    unfold evCode at he
    have hc := hr.ev c
    rw [sem_ev] at hc
    split at he
    · rename_i t ht
      rw [ht] at hc
      have hc : a.eval c = .bool t := hc
      refine wp_cond hc ?_
      cases t with
      | true =>
        rw [if_pos rfl] at he
        exact ihx he hr hq
      | false =>
        rw [if_neg (by simp)] at he
        exact ihy he hr hq
    · cases he
  | block id x ih =>
    intro st K he ι a w hr Q hq
    refine wp_block (ih he hr fun e st' ι' a' w' hk hr' hk' => ?_)
    cases e with
    | normal => exact hq .normal st' ι' a' w' hk hr' hk'
    | exit i =>
      show if i = id then Q .normal a' w' else Q (.exit i) a' w'
      dsimp only at hk
      cases hb : Nat.beq i id with
      | true =>
        rw [hb] at hk
        rw [if_pos (Nat.eq_of_beq_eq_true hb)]
        exact hq .normal st' ι' a' w' hk hr' hk'
      | false =>
        rw [hb] at hk
        rw [if_neg (fun e => by rw [e, Nat.beq_refl] at hb; cases hb)]
        exact hq (.exit i) st' ι' a' w' hk hr' hk'
    | ret => exact hq .ret st' ι' a' w' hk hr' hk'
  | loop x ih =>
    intro st K he ι a w hr Q hq
    have hd : ∀ {st : St} {ι : Im} {a : Act} {w : World}, Rel E st.sem ι a w → ∃ ι', Rel E (looped T x st).sem ι' a w ∧ Keep T.np st.sem.lk (looped T x st).sem.lk ι ι' := by
      intro st ι a w hr
      unfold looped
      split
      · exact hr.head hnp _
      · exact ⟨ι, hr, Keep.refl _⟩
    have he : evLoop (looped T x) (fun st K => evCode T x st K) T.fuel (looped T x st) K = some r := he
    obtain ⟨ι1, hr1, hk1⟩ := hd hr
    refine wp_loop_n (fun n a w => ∃ st' ι', evLoop (looped T x) (fun st K => evCode T x st K) n st' K = some r ∧ Rel E st'.sem ι' a w ∧ Keep T.np st.sem.lk st'.sem.lk ι ι') ?_ ⟨_, ι1, he, hr1, hk1⟩
    rintro n a w ⟨st', ι', he', hr', hk'⟩
    cases n with
    | zero => cases he'
    | succ n =>
      refine ih he' hr' fun e st2 ι2 a2 w2 hk2 hr2 hkp => ?_
      cases e with
      | normal =>
        obtain ⟨ι3, hr3, hk3⟩ := hd hr2
        exact ⟨n, Nat.lt_succ_self n, _, ι3, hk2, hr3, (hk'.trans hkp).trans hk3⟩
      | exit i => exact hq (.exit i) st2 ι2 a2 w2 hk2 hr2 (hk'.trans hkp)
      | ret => exact hq .ret st2 ι2 a2 w2 hk2 hr2 (hk'.trans hkp)
  | exit id =>
    intro st K he ι a w hr Q hq
    exact wp_exit (hq (.exit id) st ι a w he hr (Keep.refl _))
  | ret =>
    intro st K he ι a w hr Q hq
    exact wp_ret (hq .ret st ι a w he hr (Keep.refl _))
  | _ => intro st K he; cases he

/-! ### Functions -/
theorem load_res {t : TypeId} {v y : Value} (h : (Instr.loadAt t v).run P w = .ok y w') : (do loadVar t (← asAddr v) : Sem Value).run P w = .ok y w' := by
  cases v
  case pointer a =>
    cases a with
    | none => simp [Instr.loadAt, Instr.sureAddr] at h
    | some a =>
      rw [← h]
      simp [Instr.loadAt, Instr.sureAddr, asAddr]
  all_goals simp [Instr.loadAt, Instr.sureAddr] at h

def resM (tmps : Array Value) : ResultVar → Sem Value
  | .tmp t => pure (tmps.getD t undef)
  | .cell ad t => do loadVar t (← asAddr (tmps.getD ad undef))

theorem results_eq (fn : Func) (tmps : Array Value) : results fn tmps = fn.results.mapM (resM tmps) >>= fun vs => pure (if h : vs.size = 1 then vs[0] else .tuple vs) := by
  unfold results
  congr 1

def packV : List Value → Value
  | [x] => x
  | vs => .tuple vs.toArray

theorem pack_res (vs : List Value) : (if h : vs.toArray.size = 1 then vs.toArray[0] else Value.tuple vs.toArray) = packV vs := by
  cases vs with
  | nil => rfl
  | cons x r => cases r <;> rfl

theorem res_sound (hT : EnvOk P T) {st : St} {a : Act} (hr : Rel E st.sem ι a w) {rv : ResultVar} {x : CV} (h : resOf T st rv = some x) :
    ∃ v, (resM a.tmps rv).run P w = .ok v w ∧ CRel E (sgOf st.sem.lk) ι x v := by
  cases rv with
  | tmp t =>
    simp only [resOf] at h
    have := hr.ev (.tmp t)
    rw [sem_ev] at this
    have this : ARel E _ ι (st.tm.getD t .undef) (a.tmps.getD t undef) := this
    split at h
    · rename_i y hy
      injection h with h
      subst h
      rw [hy] at this
      exact ⟨_, rfl, this⟩
    · cases h
  | cell ad t =>
    simp only [resOf] at h
    have := hr.ev (.tmp ad)
    rw [sem_ev] at this
    have this : ARel E _ ι (st.tm.getD ad .undef) (a.tmps.getD ad undef) := this
    split at h
    · rename_i y hy
      injection h with h
      subst h
      obtain ⟨v, hv, hrel⟩ := step_load (P := P) (lk0 := lku st.ob) (u := .c y) hT.ty hr.inv (fun _ _ h => h) this (by rw [hy]; exact rfl)
      exact ⟨v, load_res hv, hrel⟩
    · cases h

theorem ress_sound (hT : EnvOk P T) {st : St} {a : Act} (hr : Rel E st.sem ι a w) : ∀ {rs : List ResultVar} {l : List CV}, ressOf T st rs = some l →
    ∃ vs, (rs.mapM (resM a.tmps)).run P w = .ok vs w ∧ F2 (CRel E (sgOf st.sem.lk) ι) l vs
  | [], l, h => by
    simp [ressOf] at h
    subst h
    exact ⟨[], by simp, .nil⟩
  | r :: rs, l, h => by
    simp only [ressOf] at h
    split at h
    · rename_i x xs h1 h2
      injection h with h
      subst h
      obtain ⟨v, hv, hx⟩ := res_sound hT hr h1
      obtain ⟨vs, hvs, hxs⟩ := ress_sound hT hr h2
      refine ⟨v :: vs, ?_, .cons hx hxs⟩
      rw [List.mapM_cons, Sem.run_bind, hv, Result.andThen_ok, Sem.run_bind, hvs]
      rfl
    · cases h

theorem finish_sound (hT : EnvOk P T) {fn : Func} {st : St} {a : Act} (hr : Rel E st.sem ι a w) {R : Type} {K : AV → Objs → Option R} {r : R} (h : finish T fn.results.toList st K = some r) :
    ∃ v ob x ι', K v ob = some r ∧ (results fn a.tmps).run P w = .ok x w ∧ Inv E (lku ob) ι' w ∧ ARel E (sgOf (lku ob)) ι' v x ∧ Keep T.np st.sem.lk (lku ob) ι ι' := by
  unfold finish at h
  split at h
  · rename_i l hl
    obtain ⟨vs, hvs, hxs⟩ := ress_sound hT hr hl
    dsimp only at h
    generalize hv : (AV.drop (dead (lku st.ob)) (packA l)) = v at h
    obtain ⟨hnd, hL⟩ := canon_spec T.np (lku st.ob) v.ids
    obtain ⟨ι', h1, h2, h3⟩ := norm_ok (st := st.sem) hr.inv hnd hL
    refine ⟨v.ren (rn T.np (canon T.np (lku st.ob) v.ids)), relabel T.np (lku st.ob) (canon T.np (lku st.ob) v.ids), packV vs, ι', ?_, ?_, h1, ?_, h3⟩
    · exact h
    · rw [results_eq, Sem.run_bind, Array.mapM_eq_mapM_toList, Sem.run_map, hvs, ← pack_res]
      rfl
    · refine ARel.ren ?_ fun o _ => h2 o
      rw [← hv]
      refine ARel.drop ?_
      cases hxs with
      | nil => exact ⟨#[], rfl, .nil⟩
      | cons hx hr =>
        cases hr with
        | nil => exact hx
        | cons hy hr => exact ⟨_, rfl, .cons hx (.cons hy hr)⟩
  · cases h

/-- What the evaluator says of a function. -/
theorem fn_sound (hT : EnvOk P T) (hm : P.follows .mixedOrders = true) (hnp : T.np ≤ 64) {f : FuncId} {fn : Func} (hfn : P.funcs[f]? = some fn) (hname : (fn.name == "runtime.NumGoroutine") = false) {args : List AV} {objs : Objs} {v : AV} {ob : Objs}
    (hobj : objs.all (fun p => Nat.blt p.1 T.np) = true) {R : Type} {K : AV → Objs → Option R} {r : R} (he : evFn T fn args objs K = some r) (hK : ∀ v' ob', K v' ob' = some r → v' = v ∧ ob' = ob) : Good P f args objs v ob := by
  unfold evFn at he
  split at he
  · rename_i c hc
    refine ⟨⟨fn, hfn, hname, by rw [hc]; rfl⟩, fun E ι w vals hinv hargs => ?_⟩
    refine calls_of_wp hfn hc ?_
    have hr : Rel E (St.sem ⟨args ++ List.replicate (fn.ntmps - args.length) (.lf .void), objs⟩) ι { tmps := vals.toArray ++ Array.replicate (fn.ntmps - vals.toArray.size) undef, defers := [] } w := by
      refine ⟨hinv, ?_, rfl⟩
      have hl := hargs.length
      simp only [Array.toList_append, Array.toList_replicate, List.size_toArray, St.sem]
      rw [← hl]
      exact hargs.append (F2.replicate _ rfl)
    refine code_sound hT hm hnp c he hr fun e st' ι' a' w' hk hr' hk' => ?_
    have key : finish T fn.results.toList (St.lift T.fin 0 st') K = some r → (a'.defers = [] ∧ ∃ x, (results fn a'.tmps).run P w' = .ok x w' ∧ ∃ y ι', Ending.returned x = .returned y ∧ Inv E (lku ob) ι' w' ∧ ARel E (sgOf (lku ob)) ι' v y ∧ ∀ o, (lku objs o).isSome = true → Fits (sgOf (lku objs)) (sgOf (lku ob)) ι ι' o) := by
      intro hf
      obtain ⟨ι1, hr1, hk1⟩ := Rel.lift hnp T.fin 0 hr' (st := st')
      obtain ⟨v', ob', x, ι'', hkk, hres, hi, hv, hkeep⟩ := finish_sound hT hr1 hf
      obtain ⟨e1, e2⟩ := hK _ _ hkk
      subst e1; subst e2
      refine ⟨hr1.df, x, hres, x, ι'', rfl, hi, hv, fun o ho => ?_⟩
      obtain ⟨a, ha⟩ := Option.isSome_iff_exists.1 ho
      have := List.all_eq_true.1 hobj _ (lku_mem ha)
      exact ((hk'.trans hk1).trans hkeep) o (blt_iff.1 this)
    cases e with
    | normal => exact key hk
    | exit i => cases hk
    | ret => exact key hk
  · cases he
end

end Go.Proofs.Ytiooamodldgalaa.Abs
