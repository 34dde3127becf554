/-
Regions whose order is drawn, the law.
-/
import Derived.Test.YtiooamodldgalaaAbs19
namespace Go.Proofs.Ytiooamodldgalaa.Abs
open Go

section
variable {E : Ctx} {lk lk0 : Nat → Option AO} {ι : Im} {w w' : World} {P : Program} {T : Env}

theorem meetsF {a b : List Nat} : meets a b = false ↔ ∀ x ∈ a, x ∉ b := by
  unfold meets
  rw [List.any_eq_false]
  constructor
  · intro h x hx hb
    exact h x hx (anyBeq.2 hb)
  · intro h x hx hb
    exact h x hx (anyBeq.1 hb)

theorem optMemF {d : Option Tmp} {l : List Tmp} : optMem d l = false ↔ ∀ t, d = some t → t ∉ l := by
  cases d with
  | none => simp [optMem]
  | some q =>
    simp only [optMem]
    rw [anyBeqF]
    constructor
    · intro h t e; injection e with e; exact e ▸ h
    · intro h; exact h q rfl

structure Apart (ops : List Oper) (x y : Ent) : Prop where
  d1 : ∀ t, x.o.dst = some t → t ∉ looks ops y.o
  d2 : ∀ t, y.o.dst = some t → t ∉ looks ops x.o
  d3 : ∀ t, x.o.dst = some t → y.o.dst ≠ some t
  f1 : ∀ n ∈ x.l.wr, n ∉ y.l.foot
  f2 : ∀ n ∈ x.l.foot, n ∉ y.l.wr
  ww : ∀ n ∈ x.l.wr, n ∉ y.l.wr
  n1 : ∀ n ∈ x.l.nw, n ∉ y.l.vi
  n2 : ∀ n ∈ y.l.nw, n ∉ x.l.vi

theorem apart_spec {ops : List Oper} {x y : Ent} (h : apart ops x.o y.o x.l y.l = true) : Apart ops x y := by
  simp only [apart, Bool.and_eq_true, Bool.not_eq_true'] at h
  obtain ⟨⟨⟨⟨⟨⟨⟨h1, h2⟩, h3⟩, h4⟩, h5⟩, h6⟩, h7⟩, h8⟩ := h
  refine ⟨optMemF.1 h1, optMemF.1 h2, ?_, meetsF.1 h4, meetsF.1 h5, meetsF.1 h6, meetsF.1 h7, meetsF.1 h8⟩
  intro t ht e
  rw [ht] at h3
  have := optMemF.1 h3 t e
  simp at this

theorem apartAll_spec {ops : List Oper} {bs : List Nat} {i : Nat} {x : Ent} : ∀ {es : List Ent} {j : Nat}, apartAll ops bs i x.o x.l (es.map (·.o)) (es.map (·.l)) j = true →
    ∀ k y, es[k]? = some y → (Nat.testBit (bs.getD (j + k) 0) i = true ∨ Apart ops x y) ∧ ∀ n ∈ y.l.nw, n ∉ x.l.vi
  | [], _, _, k, y, hy => by simp at hy
  | e :: es, j, h, k, y, hy => by
    simp only [List.map_cons, apartAll, Bool.and_eq_true, Bool.or_eq_true, Bool.not_eq_true'] at h
    obtain ⟨⟨h1, h2⟩, h3⟩ := h
    cases k with
    | zero =>
      have hy : e = y := by simpa using hy
      subst hy
      exact ⟨h1.imp id apart_spec, meetsF.1 h2⟩
    | succ k =>
      have := apartAll_spec h3 k y (by simpa using hy)
      rwa [show j + 1 + k = j + (k + 1) by omega] at this

theorem apartFrom_spec {ops : List Oper} {bs : List Nat} : ∀ {es : List Ent} {i : Nat}, apartFrom ops bs (es.map (·.o)) (es.map (·.l)) i = true →
    ∀ p q x y, p < q → es[p]? = some x → es[q]? = some y → (Nat.testBit (bs.getD (i + q) 0) (i + p) = true ∨ Apart ops x y) ∧ ∀ n ∈ y.l.nw, n ∉ x.l.vi
  | [], _, _, p, q, x, y, _, hx, _ => by simp at hx
  | e :: es, i, h, p, q, x, y, hpq, hx, hy => by
    simp only [List.map_cons, apartFrom, Bool.and_eq_true] at h
    obtain ⟨h1, h2⟩ := h
    obtain ⟨q, rfl⟩ : ∃ r, q = r + 1 := ⟨q - 1, by omega⟩
    cases p with
    | zero =>
      have hx : e = x := by simpa using hx
      subst hx
      have := apartAll_spec h1 q y (by simpa using hy)
      rwa [show i + 1 + q = i + (q + 1) by omega] at this
    | succ p =>
      have := apartFrom_spec h2 p q x y (by omega) (by simpa using hx) (by simpa using hy)
      rwa [show i + 1 + p = i + (p + 1) by omega, show i + 1 + q = i + (q + 1) by omega] at this

theorem befMask_spec {acc : List Nat} {i : Nat} : ∀ {es : List Edge} {m : Nat}, Nat.testBit (befMask acc es m) i = true → Nat.testBit m i = true ∨ ∃ e ∈ es, Region.binds .any e = true ∧ (i = e.on ∨ Nat.testBit (acc.getD e.on 0) i = true)
  | [], m, h => .inl h
  | e :: r, m, h => by
    simp only [befMask] at h
    rcases befMask_spec h with h1 | ⟨x, hx, hb, h1⟩
    · cases hb : Region.binds .any e with
      | false => rw [hb] at h1; exact .inl h1
      | true =>
        rw [hb] at h1
        have h1 : Nat.testBit ((m ||| 2 ^ e.on) ||| acc.getD e.on 0) i = true := h1
        rw [Nat.testBit_or, Nat.testBit_or, Nat.testBit_two_pow] at h1
        simp only [Bool.or_eq_true, decide_eq_true_eq] at h1
        rcases h1 with (h1 | h1) | h1
        · exact .inl h1
        · exact .inr ⟨e, by simp, hb, .inl h1.symm⟩
        · exact .inr ⟨e, by simp, hb, .inr h1⟩
    · exact .inr ⟨x, by simp [hx], hb, h1⟩

/-- What lies ahead of operation j is done, when what it is bound to is. -/
theorem befs_done {D : Nat → Bool} {ops : List Oper} (hD : ∀ j o, ops[j]? = some o → D j = true → ∀ e ∈ o.after, Region.binds .any e = true → D e.on = true) :
    ∀ {os : List Oper} {acc : List Nat}, (∀ k o, os[k]? = some o → ops[acc.length + k]? = some o) →
    (∀ j i, Nat.testBit (acc.getD j 0) i = true → (∀ o, ops[j]? = some o → ∀ e ∈ o.after, Region.binds .any e = true → D e.on = true) → (ops[j]?).isSome = true → D i = true) →
    (∀ j, (acc.getD j 0) ≠ 0 → (ops[j]?).isSome = true) →
    (∀ j i, Nat.testBit ((befs os acc).getD j 0) i = true → (∀ o, ops[j]? = some o → ∀ e ∈ o.after, Region.binds .any e = true → D e.on = true) → D i = true)
  | [], acc, _, hacc, hs, j, i, hi, hp => hacc j i hi hp (hs j (by intro e; have hi : Nat.testBit (acc.getD j 0) i = true := hi; rw [e, Nat.zero_testBit] at hi; cases hi))
  | o :: os, acc, hos, hacc, hs, j, i, hi, hp => by
    have ho : ops[acc.length]? = some o := by
      have := hos 0 o (by simp)
      simpa using this
    simp only [befs] at hi
    refine befs_done hD (acc := acc ++ [befMask acc o.after.toList 0]) ?_ ?_ ?_ j i hi hp
    · intro k o' hk
      have := hos (k + 1) o' (by simpa using hk)
      rw [show acc.length + (k + 1) = acc.length + 1 + k by omega] at this
      simpa using this
    · intro j i hi hp hsome
      rcases Nat.lt_trichotomy j acc.length with hlt | rfl | hgt
      · rw [List.getD_eq_getElem?_getD, List.getElem?_append_left hlt, ← List.getD_eq_getElem?_getD] at hi
        exact hacc j i hi hp hsome
      · rw [List.getD_eq_getElem?_getD, List.getElem?_append_right (Nat.le_refl _)] at hi
        simp only [Nat.sub_self, List.getElem?_cons_zero, Option.getD_some] at hi
        rcases befMask_spec hi with h0 | ⟨e, he, hb, h1⟩
        · rw [Nat.zero_testBit] at h0; cases h0
        · have hon := hp o ho e (by simpa using he) hb
          rcases h1 with rfl | h1
          · exact hon
          · have hsm := hs e.on (by intro h0; rw [h0, Nat.zero_testBit] at h1; cases h1)
            exact hacc e.on i h1 (fun o' ho' e' he' hb' => hD e.on o' ho' hon e' he' hb') hsm
      · rw [List.getD_eq_getElem?_getD, List.getElem?_eq_none (by simp; omega)] at hi
        rw [show (none : Option Nat).getD 0 = 0 from rfl, Nat.zero_testBit] at hi
        cases hi
    · intro j hne
      rcases Nat.lt_trichotomy j acc.length with hlt | rfl | hgt
      · rw [List.getD_eq_getElem?_getD, List.getElem?_append_left hlt, ← List.getD_eq_getElem?_getD] at hne
        exact hs j hne
      · rw [ho]; rfl
      · rw [List.getD_eq_getElem?_getD, List.getElem?_eq_none (by simp; omega)] at hne
        exact absurd rfl hne

theorem edgesOk_spec : ∀ {os : List Oper} {i : Nat}, edgesOk os i = true → ∀ k o, os[k]? = some o → ∀ e ∈ o.after, Region.binds .any e = true → e.on < i + k
  | [], _, _, k, o, ho => by simp at ho
  | x :: os, i, h, k, o, ho => by
    simp only [edgesOk, Bool.and_eq_true, List.all_eq_true] at h
    cases k with
    | zero =>
      have ho : x = o := by simpa using ho
      subst ho
      intro e he hb
      have := h.1 e (by simpa using he)
      rw [hb] at this
      simp at this; simpa using this
    | succ k =>
      intro e he hb
      have := edgesOk_spec h.2 k o (by simpa using ho) e he hb
      omega

/-- How many are not listed yet. -/
def left (listed : Array Bool) : Nat := listed.toList.countP fun b => !b

theorem left_zero {listed : Array Bool} (h : left listed = 0) {j : Nat} (hj : j < listed.size) : listed.getD j false = true := by
  unfold left at h
  rw [List.countP_eq_zero] at h
  have := h listed[j] (by simp)
  rw [Array.getD_eq_getD_getElem?, Array.getElem?_eq_getElem hj]
  simpa using this

theorem left_set {listed : Array Bool} {i : Nat} (hi : listed.getD i true = false) : left (listed.setIfInBounds i true) + 1 = left listed := by
  have hlt : i < listed.size := by
    rcases Nat.lt_or_ge i listed.size with h | h
    · exact h
    · rw [Array.getD_eq_getD_getElem?, Array.getElem?_eq_none h] at hi
      cases hi
  have hf : listed[i] = false := by
    rw [Array.getD_eq_getD_getElem?, Array.getElem?_eq_getElem hlt] at hi
    simpa using hi
  unfold left
  rw [Array.toList_setIfInBounds, List.countP_set (by simpa using hlt)]
  have hpos : 0 < listed.toList.countP fun b => !b := by
    rw [List.countP_pos_iff]
    exact ⟨listed[i], by simp, by rw [hf]; rfl⟩
  have h1 : (!(listed.toList[i]'(by simpa using hlt))) = true := by simp [hf]
  rw [if_pos h1, if_neg (by simp)]
  omega

theorem getD_ft {listed : Array Bool} {j : Nat} (h : listed.getD j true = false) : listed.getD j false = false := by
  rw [Array.getD_eq_getD_getElem?] at h ⊢
  cases hv : listed[j]? with
  | none => rfl
  | some b => rw [hv] at h; exact h
theorem getD_tf {listed : Array Bool} {j : Nat} (hj : j < listed.size) (h : listed.getD j false = false) : listed.getD j true = false := by
  rw [Array.getD_eq_getD_getElem?, Array.getElem?_eq_getElem hj] at h ⊢
  exact h

/-- What is needed of the region's listed run. -/
structure Draw (T : Env) (ops : Array Oper) (es : List Ent) (st st' : St) : Prop where
  tr : Trace T true ops.toList es st st'
  os : es.map (·.o) = ops.toList
  ok : okDraw ops.toList st (es.map (·.l)) = true

theorem Draw.get {ops : Array Oper} {es : List Ent} {st st' : St} (h : Draw T ops es st st') {j : Nat} {o : Oper} (ho : ops[j]? = some o) : ∃ e, es[j]? = some e ∧ e.o = o := by
  rw [← Array.getElem?_toList, ← h.os, List.getElem?_map] at ho
  obtain ⟨e, he, rfl⟩ := Option.map_eq_some_iff.1 ho
  exact ⟨e, he, rfl⟩
theorem Draw.got {ops : Array Oper} {es : List Ent} {st st' : St} (h : Draw T ops es st st') {j : Nat} {e : Ent} (he : es[j]? = some e) : ops[j]? = some e.o := by
  rw [← Array.getElem?_toList, ← h.os, List.getElem?_map, he]
  rfl

theorem any_sound (hT : EnvOk P T) {np : Nat} (hnp : np ≤ 64) {ops : Array Oper} {Q : Exit → Act → World → Prop} {es : List Ent} {st st' : St} (hd : Draw T ops es st st') {ι0 : Im}
    (hq : ∀ ι' a' w', Rel E st'.sem ι' a' w' → Keep np st.sem.lk st'.sem.lk ι0 ι' → Q .normal a' w') : ∀ (fuel : Nat) (listed : Array Bool) (ι : Im) (a : Act) (w : World), listed.size = ops.size → left listed ≤ fuel →
      (∀ j o, ops[j]? = some o → listed.getD j false = true → ∀ e ∈ o.after, Region.binds .any e = true → listed.getD e.on false = true) →
      Rel E (F (fun j => listed.getD j false) 0 es st.sem) ι a w → Keep np st.sem.lk (F (fun j => listed.getD j false) 0 es st.sem).lk ι0 ι → wpAny P .any ops Q fuel listed a w := by
  have hok := hd.ok
  simp only [okDraw, Bool.and_eq_true, List.all_eq_true] at hok
  obtain ⟨⟨hedge, hapart⟩, hfresh⟩ := hok
  have hlen : es.length = ops.size := by
    have := congrArg List.length hd.os
    simpa using this
  rw [← hd.os] at hapart
  have finish : ∀ (listed : Array Bool) (ι : Im) (a : Act) (w : World), listed.size = ops.size → (∀ j, j < ops.size → listed.getD j false = true) →
      Rel E (F (fun j => listed.getD j false) 0 es st.sem) ι a w → Keep np st.sem.lk (F (fun j => listed.getD j false) 0 es st.sem).lk ι0 ι → Q .normal a w := by
    intro listed ι a w _ hall hr hk
    have := hd.tr.end rfl (k := 0) (D := fun j => listed.getD j false) fun j _ hlt => hall j (by omega)
    rw [← this] at hr hk
    exact hq ι a w hr hk
  have all_of_ready : ∀ (listed : Array Bool), listed.size = ops.size → Region.ready .any ops listed = [] → ∀ j, j < ops.size → listed.getD j false = true := by
    intro listed hls hnil j
    induction j using Nat.strongRecOn with
    | _ j ih =>
      intro hj
      cases hl : listed.getD j false with
      | true => rfl
      | false =>
        have ho : ops[j]? = some ops[j] := Array.getElem?_eq_getElem hj
        have : j ∈ Region.ready .any ops listed := by
          rw [mem_ready]
          refine ⟨getD_tf (by omega) hl, ops[j], ho, fun e he hb => ?_⟩
          have hlt := edgesOk_spec hedge j ops[j] (by simp) e he hb
          rw [Nat.zero_add] at hlt
          exact ih e.on hlt (by omega)
        rw [hnil] at this
        cases this
  intro fuel
  induction fuel with
  | zero =>
    intro listed ι a w hls hleft hcl hr hk
    have hall : ∀ j, j < ops.size → listed.getD j false = true := fun j hj => left_zero (by omega) (by omega)
    refine ⟨?_, finish listed ι a w hls hall hr hk⟩
    rw [List.eq_nil_iff_forall_not_mem]
    intro j hj
    obtain ⟨h1, o, ho, _⟩ := mem_ready.1 hj
    have hlt : j < ops.size := (Array.getElem?_eq_some_iff.1 ho).1
    have := hall j hlt
    rw [getD_ft h1] at this
    cases this
  | succ fuel ih =>
    intro listed ι a w hls hleft hcl hr hk
    refine ⟨fun hnil => finish listed ι a w hls (all_of_ready listed hls hnil) hr hk, fun i hi => ?_⟩
    obtain ⟨hil, o, ho, hedges⟩ := mem_ready.1 hi
    obtain ⟨e, he, rfl⟩ := hd.get ho
    generalize hDD : (fun j => listed.getD j false) = D at *
    have hDj : ∀ j, D j = listed.getD j false := fun j => by rw [← hDD]
    have hiD : D i = false := by rw [hDj]; exact getD_ft hil
    have hilt : i < ops.size := (Array.getElem?_eq_some_iff.1 ho).1
    have hclD : ∀ j o, ops.toList[j]? = some o → D j = true → ∀ e ∈ o.after, Region.binds .any e = true → D e.on = true := by
      intro j o ho' hj' e' he' hb
      rw [hDj] at hj' ⊢
      exact hcl j o (by simpa using ho') hj' e' he' hb
    have hbefs : ∀ j i, Nat.testBit ((befs ops.toList []).getD j 0) i = true → (∀ o, ops.toList[j]? = some o → ∀ e ∈ o.after, Region.binds .any e = true → D e.on = true) → D i = true :=
      befs_done hclD (fun k o h => by simpa using h) (fun j i hi => by simp at hi) (fun j h => absurd rfl h)
    have hiP : ∀ o, ops.toList[i]? = some o → ∀ e ∈ o.after, Region.binds .any e = true → D e.on = true := by
      intro o' ho' e' he' hb
      have ho' : ops[i]? = some o' := by simpa using ho'
      rw [ho] at ho'
      injection ho' with ho'
      subst ho'
      rw [hDj]
      exact hedges e' he' hb
    rw [hd.os] at hapart
    rw [← hd.os] at hapart
    have pair := fun p q x y h hx hy => apartFrom_spec (i := 0) hapart p q x y h hx hy
    simp only [Nat.zero_add] at pair
    have caseA : ∀ (j : Nat) (x : Ent), es[j]? = some x → j < i → D j = false → Apart ops.toList x e := by
      intro j x hx hlt hj
      rcases (pair j i x e hlt hx he).1 with h1 | h1
      · rw [hd.os] at h1
        have := hbefs i j h1 hiP
        rw [hj] at this
        cases this
      · rw [hd.os] at h1; exact h1
    have caseB : ∀ (j : Nat) (x : Ent), es[j]? = some x → i < j → D j = true → Apart ops.toList e x := by
      intro j x hx hlt hj
      rcases (pair i j e x hlt he hx).1 with h1 | h1
      · rw [hd.os] at h1
        have := hbefs j i h1 (fun o' ho' => hclD j o' ho' hj)
        rw [hiD] at this
        cases this
      · rw [hd.os] at h1; exact h1
    obtain ⟨sti, hsti, hwants, hrun, hskip⟩ := hd.tr.at rfl (k := 0) (i := i) he
    rw [Nat.zero_add] at hsti
    have wr_of : ∀ (j : Nat) (x : Ent), es[j]? = some x → x.wr = x.l.wr := by
      intro j x hx
      obtain ⟨stj, _, _, hrj, hsj⟩ := hd.tr.at rfl (k := 0) (i := j) hx
      cases hmu : x.mu with
      | some u => rw [(hrj u hmu).2.2]; simp [Ent.wr, hmu, lgOf, Upd.wr]
      | none => rw [hsj hmu]; simp [Ent.wr, hmu, Lg.none]
    have vi_of : ∀ (j : Nat) (x : Ent), es[j]? = some x → x.vi = x.l.vi := by
      intro j x hx
      obtain ⟨stj, _, _, hrj, hsj⟩ := hd.tr.at rfl (k := 0) (i := j) hx
      cases hmu : x.mu with
      | some u => rw [(hrj u hmu).2.2]; simp [Ent.vi, hmu, lgOf, Upd.vi]
      | none => rw [hsj hmu]; simp [Ent.vi, hmu, Lg.none]
    -- places that the operation looks at
    have agree : ∀ (j : Nat) (x : Ent), es[j]? = some x → (¬ Apart ops.toList x e ∧ ¬ Apart ops.toList e x) → D (0 + j) = Nat.blt j i := by
      intro j x hx hna
      rw [Nat.zero_add]
      rcases Nat.lt_trichotomy j i with hlt | rfl | hgt
      · rw [blt_iff.2 hlt]
        cases hj : D j with
        | true => rfl
        | false => exact absurd (caseA j x hx hlt hj) hna.1
      · rw [hiD]
        cases hb : Nat.blt j j with
        | false => rfl
        | true => have := blt_iff.1 hb; omega
      · have hb : Nat.blt j i = false := by
          cases hb : Nat.blt j i with
          | false => rfl
          | true => have := blt_iff.1 hb; omega
        rw [hb]
        cases hj : D j with
        | false => rfl
        | true => exact absurd (caseB j x hx hgt hj) hna.2
    have tmEq : ∀ t, t ∈ looks ops.toList e.o → (F D 0 es st.sem).tm.getD t .undef = sti.sem.tm.getD t .undef := by
      intro t ht
      rw [hsti]
      refine F_tm (fun j x hx hdst => ?_) rfl rfl
      have := agree j x hx ⟨fun ha => ha.d1 t hdst ht, fun ha => ha.d2 t hdst ht⟩
      simpa using this
    have lkEq : ∀ n, n ∈ e.l.foot → (F D 0 es st.sem).lk n = sti.sem.lk n := by
      intro n hn
      rw [hsti]
      refine F_lk (fun j x hx hwr => ?_) rfl
      rw [wr_of j x hx] at hwr
      have := agree j x hx ⟨fun ha => ha.f1 n hwr hn, fun ha => ha.f2 n hn hwr⟩
      simpa using this
    have hwD : wantsS ops.toList e.o (F D 0 es st.sem).tm = some e.mu.isSome := by
      rw [← hwants]
      unfold wantsS
      cases hg : e.o.guard with
      | none => rfl
      | some gw =>
        obtain ⟨g, want⟩ := gw
        dsimp only
        cases hdg : gdst ops.toList g with
        | none => rfl
        | some d =>
          dsimp only
          have : d ∈ looks ops.toList e.o := by
            simp [looks, hg, hdg]
          rw [tmEq d this]
          rfl
    -- the next list
    have hsz' : (listed.setIfInBounds i true).size = ops.size := by simpa using hls
    have hleft' : left (listed.setIfInBounds i true) ≤ fuel := by
      have := left_set hil
      omega
    have hset : (listed.setIfInBounds i true).getD i false = true := by
      rw [Array.getD_eq_getD_getElem?, Array.getElem?_setIfInBounds_self_of_lt (by omega)]
      rfl
    have hcl' : ∀ j o, ops[j]? = some o → (listed.setIfInBounds i true).getD j false = true → ∀ e ∈ o.after, Region.binds .any e = true → (listed.setIfInBounds i true).getD e.on false = true := by
      intro j o' ho' hj' e' he' hb
      have key : listed.getD e'.on false = true := by
        by_cases hij : i = j
        · subst hij
          rw [ho] at ho'
          injection ho' with ho'
          subst ho'
          exact hedges e' he' hb
        · rw [getD_set_ne _ hij] at hj'
          exact hcl j o' ho' hj' e' he' hb
      by_cases hij : i = e'.on
      · rw [← hij]; exact hset
      · rw [getD_set_ne _ hij]; exact key
    have hF : F (fun j => (listed.setIfInBounds i true).getD j false) 0 es st.sem = (F D 0 es st.sem).app (e.o, e.mu) := by
      refine F_add (i := i) (fun j hj => ?_) hiD hset (Nat.zero_le _) (by simpa using he) fun j x hx hlt hj => ?_
      · show (listed.setIfInBounds i true).getD j false = D j
        rw [getD_set_ne _ (fun e => hj e.symm), hDj]
      · rw [Nat.zero_add] at hlt hj
        have ha := caseB j x hx hlt hj
        refine ⟨ha.d3, fun n hn => ?_⟩
        rw [wr_of i e he] at hn
        rw [wr_of j x hx]
        exact ha.ww n hn
    unfold wpOp
    rw [ho]
    dsimp only
    rw [wants_eq hr.tm hwD]
    cases hmu : e.mu with
    | none =>
      simp only [Option.isSome_none, Bool.false_eq_true, if_false]
      refine ih _ ι _ w hsz' hleft' hcl' ?_ ?_
      · rw [hF, hmu]
        exact hr.skip e.o
      · rw [hF, hmu]
        exact hk
    | some u =>
      simp only [Option.isSome_some, if_true]
      obtain ⟨hu, hf, hl⟩ := hrun u hmu
      have hu : (evCore T sti.ev (limit (footOf sti e.o) (lku sti.ob)) e.o).gives u := hu
      have hfoot : footOf sti e.o = e.l.foot := by rw [hl]; rfl
      have hev : ∀ x ∈ e.o.op.operands.toList, sti.ev x = (F D 0 es st.sem).ev x := by
        intro x hx
        rw [← sem_ev]
        refine looks_ev fun t ht => (tmEq t ?_).symm
        subst ht
        unfold looks
        rw [List.mem_append]
        exact .inl (List.mem_flatMap.2 ⟨.tmp t, hx, by simp⟩)
      rw [evCore_congr e.o hev] at hu
      have hnew := fits_new hf
      refine .inl (hr.run hT (lk0 := limit (footOf sti e.o) (lku sti.ob)) ?_ hu ⟨hnew.1, fun p hp => ⟨(hnew.2 p hp).1, fun ht => ?_⟩⟩ hnp fun a' w' ι' hr' hk' => ?_)
      · intro n b hn
        unfold limit at hn
        cases hb : (footOf sti e.o).any (Nat.beq n) with
        | false => rw [hb] at hn; cases hn
        | true =>
          rw [hb] at hn
          have hm : n ∈ e.l.foot := by rw [← hfoot]; exact anyBeq.1 hb
          rw [lkEq n hm]
          exact hn
      · have hnw : p.1 ∈ e.l.nw := by
          rw [hl]
          exact List.mem_map.2 ⟨p, hp, rfl⟩
        rcases F_tells ht with h1 | ⟨j, x, hx, hj, hv⟩
        · have h2 := hfresh e.l (List.mem_map.2 ⟨e, List.mem_of_getElem? he, rfl⟩) p.1 hnw
          exact fresh_tells h2 h1
        · rw [Nat.zero_add] at hj
          rw [vi_of j x hx] at hv
          rcases Nat.lt_trichotomy j i with hlt | rfl | hgt
          · exact (pair j i x e hlt hx he).2 p.1 hnw hv
          · rw [hiD] at hj; cases hj
          · exact (caseB j x hx hgt hj).n1 p.1 hnw hv
      · rw [← hmu] at hr' hk'
        refine ih _ ι' a' w' hsz' hleft' hcl' ?_ ?_
        · rw [hF]; exact hr'
        · rw [hF]; exact hk.trans hk'

theorem any_region (hT : EnvOk P T) (hm : P.follows .mixedOrders = true) {np : Nat} (hnp : np ≤ 64) {ops : Array Oper} {Q : Exit → Act → World → Prop} {es : List Ent} {st st' : St} (hd : Draw T ops es st st') {a : Act} (hr : Rel E st.sem ι a w) {id : Nat}
    (hq : ∀ ι' a' w', Rel E st'.sem ι' a' w' → Keep np st.sem.lk st'.sem.lk ι ι' → Q .normal a' w') : (Code.region id ops true).wp P Q a w := by
  have hno : ∀ j, (Array.replicate ops.size false).getD j false = false := by
    intro j
    rw [Array.getD_eq_getD_getElem?]
    cases hv : (Array.replicate ops.size false)[j]? with
    | none => rfl
    | some b =>
      rw [Array.getElem?_replicate] at hv
      split at hv
      · injection hv with hv; rw [← hv]; rfl
      · cases hv
  have hF : F (fun j => (Array.replicate ops.size false).getD j false) 0 es st.sem = st.sem := F_none fun j _ => hno j
  refine wp_region_any hm (any_sound hT hnp hd (ι0 := ι) hq ops.size _ ι a _ (by simp) ?_ ?_ ?_ ?_)
  · unfold left
    refine Nat.le_trans (List.countP_le_length) (by simp)
  · intro j o _ hj
    rw [hno] at hj
    cases hj
  · rw [hF]
    exact ⟨hr.inv.same rfl rfl rfl rfl, hr.tm, hr.df⟩
  · rw [hF]
    exact Keep.refl np
end

end Go.Proofs.Ytiooamodldgalaa.Abs
