/-
A row that is laid into a row of rows: the one operation that turns what a row of rows leads to.
-/
import Derived.Test.YtiooamodldgalaaAbs17
namespace Go.Proofs.Ytiooamodldgalaa.Abs
open Go

section
variable {E : Ctx} {lk lk' : Nat → Option AO} {ι ι' : Im} {w w' : World} {P : Program} {T : Env} {sg sg' : Nat → Option Sig}

/-- The outer row stays. -/
def FitsW (sg sg' : Nat → Option Sig) (ι ι' : Im) (o : Nat) : Prop := ∃ t n ls ls', sg o = some (.rows t n ls) ∧ sg' o = some (.rows t n ls') ∧ ι'.v o = ι.v o

theorem LRel.monoW {p : Nat} (hp : FitsW sg sg' ι ι' p) {x : LV} {v : Value} (h : LRel E sg ι x v) (hf : ∀ o ∈ x.ids, o ≠ p → Fits sg sg' ι ι' o) : LRel E sg' ι' (x.dropInn p) v := by
  obtain ⟨t0, n0, ls, ls', h1, h2, h3⟩ := hp
  have one : ∀ o, (o = p → LRel E sg' ι' (x.dropInn p) v) → (o ≠ p → LRel E sg' ι' (x.dropInn p) v) → LRel E sg' ι' (x.dropInn p) v := fun o a b => (Classical.em (o = p)).elim a b
  cases x with
  | ptr o off =>
    refine one o (fun e => ?_) fun e => LRel.mono (x := .ptr o off) h fun q hq => hf q hq (by simp [LV.ids] at hq; rw [hq]; exact e)
    subst e
    intro hs
    rw [h2] at hs; cases hs
  | eptr o i off =>
    refine one o (fun e => ?_) fun e => LRel.mono (x := .eptr o i off) h fun q hq => hf q hq (by simp [LV.ids] at hq; rw [hq]; exact e)
    subst e
    intro t n l hs
    rw [h2] at hs
    injection hs with hs; injection hs with e1 e2 e3
    subst e1; subst e2
    rw [h3]
    exact h _ _ _ h1
  | iptr o i j off =>
    refine one o (fun e => ?_) fun e => ?_
    · subst e
      simp [LV.dropInn, LRel]
    · have : (LV.iptr o i j off).dropInn p = .iptr o i j off := by
        simp only [LV.dropInn]
        cases hb : Nat.beq o p with
        | true => exact absurd (Nat.eq_of_beq_eq_true hb) e
        | false => rfl
      rw [this]
      exact h.mono fun q hq => hf q hq (by simp [LV.ids] at hq; rw [hq]; exact e)
  | own o =>
    refine one o (fun e => ?_) fun e => LRel.mono (x := .own o) h fun q hq => hf q hq (by simp [LV.ids] at hq; rw [hq]; exact e)
    subst e
    intro t n l hs
    rw [h3]
    exact h _ _ _ h1
  | view o lo hi =>
    refine one o (fun e => ?_) fun e => LRel.mono (x := .view o lo hi) h fun q hq => hf q hq (by simp [LV.ids] at hq; rw [hq]; exact e)
    subst e
    intro t n l hs
    rw [h2] at hs
    injection hs with hs; injection hs with e1 e2 e3
    subst e1; subst e2
    rw [h3]
    exact h _ _ _ h1
  | inn o i =>
    refine one o (fun e => ?_) fun e => ?_
    · subst e
      simp [LV.dropInn, LRel]
    · have : (LV.inn o i).dropInn p = .inn o i := by
        simp only [LV.dropInn]
        cases hb : Nat.beq o p with
        | true => exact absurd (Nat.eq_of_beq_eq_true hb) e
        | false => rfl
      rw [this]
      exact h.mono fun q hq => hf q hq (by simp [LV.ids] at hq; rw [hq]; exact e)
  | mp o =>
    refine one o (fun e => ?_) fun e => LRel.mono (x := .mp o) h fun q hq => hf q hq (by simp [LV.ids] at hq; rw [hq]; exact e)
    subst e
    intro hs
    rw [h2] at hs; cases hs
  | sref o n =>
    refine one o (fun e => ?_) fun e => LRel.mono (x := .sref o n) h fun q hq => hf q hq (by simp [LV.ids] at hq; rw [hq]; exact e)
    subst e
    intro hs
    rw [h2] at hs; cases hs
  | fn f cs =>
    by_cases hm : p ∈ cs
    · intro hs
      have := hs p hm
      rw [h2] at this; cases this
    · exact LRel.mono (x := .fn f cs) h fun q hq => hf q hq (fun e => hm (e ▸ hq))
  | undef => exact h
  | void => exact h
  | int k n => exact h
  | bool b => exact h
  | str s => exact h
  | nilp => exact h
  | nils => exact h
  | rptr t x off => exact h
  | ro t xs => exact h

theorem CRel.monoW {p : Nat} (hp : FitsW sg sg' ι ι' p) {x : CV} {v : Value} (h : CRel E sg ι x v) (hf : ∀ o ∈ x.ids, o ≠ p → Fits sg sg' ι ι' o) : CRel E sg' ι' (x.dropInn p) v := by
  cases x with
  | leaf x => exact LRel.monoW hp h hf
  | agg l =>
    obtain ⟨cs, rfl, hl⟩ := h
    exact ⟨cs, rfl, F2.mapl (hl.imp fun x v hx _ hr => LRel.monoW hp hr fun o ho hne => hf o (List.mem_flatMap.2 ⟨x, hx, ho⟩) hne)⟩
theorem ARel.monoW {p : Nat} (hp : FitsW sg sg' ι ι' p) {x : AV} {v : Value} (h : ARel E sg ι x v) (hf : ∀ o ∈ x.ids, o ≠ p → Fits sg sg' ι ι' o) : ARel E sg' ι' (x.dropInn p) v := by
  cases x with
  | c x => exact CRel.monoW hp h hf
  | tup l =>
    obtain ⟨vs, rfl, hl⟩ := h
    exact ⟨vs, rfl, F2.mapl (hl.imp fun x v hx _ hr => CRel.monoW hp hr fun o ho hne => hf o (List.mem_flatMap.2 ⟨x, hx, ho⟩) hne)⟩

theorem lku_touchO (p : Nat) (a' : AO) (ds : List Nat) : ∀ (l : Objs) (o : Nat), lku (touchO p a' ds l) o = bif ds.any (Nat.beq o) then none else (lku l o).map fun a => bif Nat.beq o p then a' else a.dropInn p
  | [], o => by cases ds.any (Nat.beq o) <;> rfl
  | (k, a) :: r, o => by
    have ih := lku_touchO p a' ds r o
    simp only [touchO]
    cases hb : Nat.beq k o with
    | true =>
      have := Nat.eq_of_beq_eq_true hb
      subst this
      cases hd : ds.any (Nat.beq k) with
      | true => rw [hd] at ih; exact ih
      | false => simp [lku, Nat.beq_refl]
    | false =>
      cases hd : ds.any (Nat.beq k) with
      | true => simp only [cond_true, lku, hb, cond_false]; exact ih
      | false => simp only [cond_false, lku, hb]; exact ih

theorem fp_dropInn {q p : Nat} {a : AO} {k : Nat} : fp ι q (a.dropInn p) k ↔ fp ι q a k := by cases a <;> exact Iff.rfl
theorem sig_dropInn (p : Nat) (a : AO) : sig (a.dropInn p) = sig a := by cases a <;> rfl

/-- The image turned at one place of one row of rows. -/
def Im.lay (ι : Im) (p i : Nat) (v : Value) : Im := ⟨ι.v, fun o j => if o = p ∧ j = i then v else ι.v2 o j⟩

theorem touch_sound (hT : EnvOk P T) {st st1 : St} {a : Act} (hr : Rel E st.sem ι a w) {o : Oper} (ht : touch T o st = some st1) {next : Act → World → Prop} {Q : Exit → Act → World → Prop}
    (hnext : ∀ a' w' ι', Rel E st1.sem ι' a' w' → Keep T.np st.sem.lk st1.sem.lk ι ι' → next a' w') : o.wp P a w next Q := by
  unfold touch at ht
  split at ht
  · rename_i t x y hop
    split at ht
    · rename_i p i y' hx hy
      split at ht
      · rename_i e e2 b xs hp
        split at ht
        · rename_i ys ds hds
          cases hc : (!(Nat.blt p T.np) && !(ds.any (Nat.beq p)) && b.flat && szIs T t 1) with
          | false => rw [hc] at ht; cases ht
          | true =>
            rw [hc] at ht
            injection ht with ht
            simp only [Bool.and_eq_true, Bool.not_eq_true'] at hc
            obtain ⟨⟨⟨hnp, hpd⟩, hbf⟩, hsz⟩ := hc
            have hinv : Inv E (lku st.ob) ι w := hr.inv
            have rx := hr.ev x
            have ry := hr.ev y
            rw [sem_ev, hx] at rx
            rw [sem_ev, hy] at ry
            obtain ⟨hlt, g, m, c, hg, hax⟩ := rx (.list e2 b) xs.length (lens (.list e2 b) xs) (by simp [sgOf, hp, sig, St.sem])
            have hax : a.eval x = .pointer (some ⟨g, i, none⟩) := by rw [hax]; simp [RT.sz]
            have hob : RowRel w ι p e (.list e2 b) xs := hinv.ob p _ hp
            obtain ⟨_, q1, q2, q3, q4⟩ := hob
            rw [hg] at q1
            -- the row that is laid in
            have hval : w.ownsRow 0 e2 b.sz (a.eval y) ys.length (flatV b ys) ∧ (∀ k, (a.eval y).ownBlock = some k → ∃ o2 b2, o2 ∈ ds ∧ lku st.ob o2 = some b2 ∧ fp ι o2 b2 k) ∧ (a.eval y).cells.toList = [a.eval y] := by
              rcases appDst_some hinv (fun _ _ h => h) hds (show LRel E (sgOf (lku st.ob)) ι y' (a.eval y) from ry) with ⟨h1, h2, h3⟩ | ⟨o2, h1, h2, h3⟩
              · rw [h1, h2]
                exact ⟨World.ownsRow_nil w 0 e2 b.sz, fun k hk => by simp [Value.ownBlock] at hk, rfl⟩
              · have ho2 : RowRel w ι o2 e2 b ys := hinv.ob o2 _ h2
                have hw2 := (rowRel_flat hbf).1 ho2
                rw [h3]
                refine ⟨hw2, fun k hk => ⟨o2, _, by rw [h1]; simp, h2, .inl hk⟩, ?_⟩
                obtain ⟨A, c', hA, _⟩ := owns_slice hw2
                rw [hA]
                rfl
            obtain ⟨v1, v2, v4⟩ := hval
            have v3 := owns_oneCell v1
            generalize hvy : a.eval y = vy at *
            -- the store
            unfold szIs at hsz
            split at hsz
            · rename_i ti hti
              have hsz := Nat.eq_of_beq_eq_true hsz
              obtain ⟨cur, hcur, hcs, hnc⟩ : ∃ cur, w.heap[g]? = some (.cells cur e (0, 0)) ∧ cur.size = c * 1 ∧ xs.length ≤ c := by
                rcases q1.2 with ⟨he, _⟩ | ⟨g', cap, cur', he, _, hg', hnc, hcm, hcs, htk⟩
                · simp at he
                · injection he with he1 he2 he3
                  injection he1 with he1
                  injection he1 with he1
                  subst he1; subst he3
                  exact ⟨cur', hg', hcs, hnc⟩
              have hrun := run_storeVar (o := i) (v := vy) hT.ty hti (by rw [v4, hsz]; rfl) hcur (by rw [v4]; simp; omega) (by rw [v4]; intro u hu; simp at hu; rw [hu]; exact v3)
              rw [v4] at hrun
              have hset := row_set (f := fun u : Value => [u]) (sz := 1) (off := 0) (ds := [vy]) (x := vy) (fun _ => rfl) (xs := (List.range xs.length).map (ι.v2 p)) (by simpa using q1) (by simp) hcur (i := i) (by simpa using hlt) (by simp) (by simp)
              simp only [Nat.mul_one, Nat.add_zero, List.flatMap_singleton'] at hset
              generalize hw' : w.setRow g (cur.toList.take i ++ [vy] ++ cur.toList.drop (i + [vy].length)).toArray = w1 at *
              have hother : ∀ k, k ≠ g → w1.heap[k]? = w.heap[k]? := fun k hk => by rw [← hw']; exact setRow_other' g k _ hk
              have hsize : w1.heap.size = w.heap.size := by rw [← hw']; exact setRow_size _ _
              have hgrown : w.grownBy w1 (some g) := ⟨by rw [← hw']; rfl, by rw [← hw']; rfl, by rw [← hw']; rfl, by rw [hsize]; exact Nat.le_refl _, fun k _ hk => hother k (fun e => hk (by rw [e]))⟩
              have hgfp : fp ι p (.rows e (.list e2 b) xs) g := .inl (by rw [hg]; rfl)
              -- what is there behind it
              let ι' := Im.lay ι p i vy
              have hne : ∀ q, q ≠ p → (ι'.v q = ι.v q ∧ ∀ j, ι'.v2 q j = ι.v2 q j) := fun q hq => ⟨rfl, fun j => by simp [ι', Im.lay, hq]⟩
              have hpd' : ∀ o2 ∈ ds, o2 ≠ p := fun o2 h2 e => by
                subst e
                rw [anyBeqF] at hpd
                exact hpd h2
              have hlk1 : ∀ q, lku st1.ob q = bif ds.any (Nat.beq q) then none else (lku st.ob q).map fun a => bif Nat.beq q p then (.rows e (.list e2 b) (xs.set i ys)) else a.dropInn p := by
                intro q
                rw [← ht]
                cases o.dst <;> exact lku_touchO p _ ds st.ob q
              have hlkp : lku st1.ob p = some (.rows e (.list e2 b) (xs.set i ys)) := by
                rw [hlk1, hpd, hp]
                simp
              have hsgp : sgOf (lku st1.ob) p = some (.rows (.list e2 b) xs.length (lens (.list e2 b) (xs.set i ys))) := by
                simp [sgOf, hlkp, sig]
              have hW : FitsW (sgOf (lku st.ob)) (sgOf (lku st1.ob)) ι ι' p := ⟨_, _, _, _, by simp [sgOf, hp, sig]; rfl, hsgp, rfl⟩
              have hfit : ∀ q, q ≠ p → Fits (sgOf (lku st.ob)) (sgOf (lku st1.ob)) ι ι' q := by
                intro q hq
                cases hd : ds.any (Nat.beq q) with
                | true =>
                  refine .inl ?_
                  simp [sgOf, hlk1, hd]
                | false =>
                  refine .inr ⟨?_, (hne q hq).1, (hne q hq).2⟩
                  have hqp : Nat.beq q p = false := by
                    cases hb : Nat.beq q p with
                    | true => exact absurd (Nat.eq_of_beq_eq_true hb) hq
                    | false => rfl
                  simp only [sgOf, hlk1, hd, cond_false, hqp, Option.map_map]
                  cases lku st.ob q with
                  | none => rfl
                  | some a => simp [sig_dropInn]
              have hlkq : ∀ q a', q ≠ p → lku st1.ob q = some a' → ∃ a0, lku st.ob q = some a0 ∧ a' = a0.dropInn p ∧ q ∉ ds := by
                intro q a' hq hl
                rw [hlk1] at hl
                cases hd : ds.any (Nat.beq q) with
                | true => rw [hd] at hl; cases hl
                | false =>
                  rw [hd] at hl
                  have hqp : Nat.beq q p = false := by
                    cases hb : Nat.beq q p with
                    | true => exact absurd (Nat.eq_of_beq_eq_true hb) hq
                    | false => rfl
                  obtain ⟨a0, h0, h1⟩ := Option.map_eq_some_iff.1 hl
                  rw [hqp] at h1
                  exact ⟨a0, h0, h1.symm, anyBeqF.1 hd⟩
              have hv2i : ι'.v2 p i = vy := by simp [ι', Im.lay]
              have hv2j : ∀ j, j ≠ i → ι'.v2 p j = ι.v2 p j := fun j hj => by simp [ι', Im.lay, hj]
              have vyg : vy.ownBlock ≠ some g := by
                intro e
                obtain ⟨o2, b2, h1, h2, h3⟩ := v2 g e
                exact hinv.dj o2 p b2 _ h2 hp (hpd' o2 h1) g h3 hgfp
              have newRow : RowRel w1 ι' p e (.list e2 b) (xs.set i ys) := by
                refine ⟨hbf, ?_, ?_, ?_, ?_⟩
                · rw [show ι'.v p = .slice (some ⟨g, 0, none⟩) m c from hg, List.length_set]
                  have : (List.range xs.length).map (ι'.v2 p) = ((List.range xs.length).map (ι.v2 p)).set i vy := by
                    apply List.ext_getElem?
                    intro j
                    by_cases hj : j = i
                    · subst hj
                      rw [List.getElem?_set_self (by simpa using hlt)]
                      simp [hlt, hv2i]
                    · rw [List.getElem?_set_ne (fun e => hj e.symm), List.getElem?_map, List.getElem?_map]
                      by_cases hjl : j < xs.length
                      · rw [List.getElem?_range hjl]
                        simp [hv2j j hj]
                      · rw [List.getElem?_eq_none (by simp; omega)]
                        rfl
                  rw [this]
                  exact hset
                · intro j x hj
                  by_cases hji : j = i
                  · subst hji
                    rw [List.getElem?_set_self hlt] at hj
                    injection hj with hj
                    subst hj
                    rw [hv2i]
                    exact v1.kept hgrown (.inr vyg)
                  · rw [List.getElem?_set_ne (fun e => hji e.symm)] at hj
                    rw [hv2j j hji]
                    have hjl : j < xs.length := (List.getElem?_eq_some_iff.1 hj).1
                    refine (q2 j x hj).kept hgrown ?_
                    cases hb : (ι.v2 p j).ownBlock with
                    | none => exact .inl rfl
                    | some k =>
                      refine .inr fun e => ?_
                      have := q3 j k hjl hb
                      rw [hg] at this
                      exact this e.symm
                · intro j k hj hk
                  rw [List.length_set] at hj
                  rw [show ι'.v p = .slice (some ⟨g, 0, none⟩) m c from hg]
                  by_cases hji : j = i
                  · subst hji
                    rw [hv2i] at hk
                    intro e
                    have e : some g = some k := e
                    exact vyg (by rw [hk, e])
                  · rw [hv2j j hji] at hk
                    have := q3 j k hj hk
                    rwa [hg] at this
                · intro j j' k hj hj' hjj hk
                  rw [List.length_set] at hj hj'
                  have cross : ∀ q, q < xs.length → ∀ k, vy.ownBlock = some k → (ι.v2 p q).ownBlock ≠ some k := by
                    intro q hq k hk e
                    obtain ⟨o2, b2, h1, h2, h3⟩ := v2 k hk
                    exact hinv.dj o2 p b2 _ h2 hp (hpd' o2 h1) k h3 (.inr ⟨rfl, q, hq, e⟩)
                  by_cases hji : j = i
                  · subst hji
                    rw [hv2i] at hk
                    rw [hv2j j' (fun e => hjj e.symm)]
                    exact cross j' hj' k hk
                  · rw [hv2j j hji] at hk
                    by_cases hji' : j' = i
                    · subst hji'
                      rw [hv2i]
                      exact fun e => cross j hj k e hk
                    · rw [hv2j j' hji']
                      exact q4 j j' k hj hj' hjj hk
              have newFp : ∀ k, fp ι' p (.rows e (.list e2 b) (xs.set i ys)) k → fp ι p (.rows e (.list e2 b) xs) k ∨ vy.ownBlock = some k := by
                intro k hk
                rcases hk with hk | ⟨_, j, hj, hk⟩
                · exact .inl (.inl hk)
                · rw [List.length_set] at hj
                  by_cases hji : j = i
                  · subst hji
                    rw [hv2i] at hk
                    exact .inr hk
                  · rw [hv2j j hji] at hk
                    exact .inl (.inr ⟨rfl, j, hj, hk⟩)
              have keepB : ∀ q a0, q ≠ p → lku st.ob q = some a0 → ∀ k, fp ι q a0 k → w1.heap[k]? = w.heap[k]? := fun q a0 hq h0 k hk => hother k (fun e => hinv.dj q p a0 _ h0 hp hq k hk (e ▸ hgfp))
              have fpq : ∀ q a0 k, q ≠ p → fp ι' q (a0.dropInn p) k → fp ι q a0 k := fun q a0 k hq hk => fp_dropInn.1 ((fp_congr (hne q hq).1 (hne q hq).2 k).1 hk)
              have hinv1 : Inv E (lku st1.ob) ι' w1 := by
                refine hinv.turn (fun _ => True) (fun q hq => absurd trivial hq) (fun q _ _ hq => absurd trivial hq) ?_ ?_ ?_ ?_ (by rw [hsize]; exact Nat.le_refl _) hgrown.os hgrown.tape hgrown.output
                · intro q a' _ hl
                  by_cases hq : q = p
                  · subst hq
                    rw [hlkp] at hl
                    injection hl with hl
                    subst hl
                    exact newRow
                  · obtain ⟨a0, h0, rfl, _⟩ := hlkq q a' hq hl
                    have hold := hinv.ob q a0 h0
                    cases a0 with
                    | cells t0 vs =>
                      obtain ⟨g', cs, h1, h2, h3, h4⟩ := hold
                      refine ⟨g', cs, h1, ?_, h3, F2.mapl (h4.imp fun x v hx _ hxv => LRel.monoW hW hxv fun o' _ hne' => hfit o' hne')⟩
                      rw [keepB q _ hq h0 g' h1]
                      exact h2
                    | rows e0 t0 xs0 => exact hold.move (fun k hk => keepB q _ hq h0 k hk) (hne q hq).1 (hne q hq).2 (fun o' ho' => by simp [AO.ids] at ho')
                    | mset es => exact hold.move (fun k hk => keepB q _ hq h0 k hk) (hne q hq).1 (hne q hq).2 (fun o' ho' => by simp [AO.ids] at ho')
                · intro k _ hno
                  exact hother k fun e => hno p _ trivial hp (e ▸ hgfp)
                · intro q a' k _ hl hk
                  by_cases hq : q = p
                  · subst hq
                    rw [hlkp] at hl
                    injection hl with hl
                    subst hl
                    rcases newFp k hk with h1 | h1
                    · exact ⟨by rw [hsize]; exact (hinv.bd _ _ k hp h1).1, .inl ⟨_, _, trivial, hp, h1⟩⟩
                    · obtain ⟨o2, b2, _, h2, h3⟩ := v2 k h1
                      exact ⟨by rw [hsize]; exact (hinv.bd _ _ k h2 h3).1, .inl ⟨_, _, trivial, h2, h3⟩⟩
                  · obtain ⟨a0, h0, rfl, _⟩ := hlkq q a' hq hl
                    have h1 := fpq q a0 k hq hk
                    exact ⟨by rw [hsize]; exact (hinv.bd _ _ k h0 h1).1, .inl ⟨_, _, trivial, h0, h1⟩⟩
                · have cross : ∀ q a0 k, q ≠ p → q ∉ ds → lku st.ob q = some a0 → fp ι q a0 k → ¬ fp ι' p (.rows e (.list e2 b) (xs.set i ys)) k := by
                    intro q a0 k hq hqd h0 hk hpk
                    rcases newFp k hpk with h1 | h1
                    · exact hinv.dj q p a0 _ h0 hp hq k hk h1
                    · obtain ⟨o2, b2, h2, h3, h4⟩ := v2 k h1
                      exact hinv.dj q o2 a0 b2 h0 h3 (fun e => hqd (e ▸ h2)) k hk h4
                  intro q q' a1 a2 _ _ hl hl' hqq k hk hk'
                  by_cases hq : q = p
                  · subst hq
                    obtain ⟨a0, h0, rfl, hd⟩ := hlkq q' a2 (fun e => hqq e.symm) hl'
                    rw [hlkp] at hl
                    injection hl with hl
                    subst hl
                    exact cross q' a0 k (fun e => hqq e.symm) hd h0 (fpq q' a0 k (fun e => hqq e.symm) hk') hk
                  · obtain ⟨a0, h0, rfl, hd⟩ := hlkq q a1 hq hl
                    by_cases hq' : q' = p
                    · subst hq'
                      rw [hlkp] at hl'
                      injection hl' with hl'
                      subst hl'
                      exact cross q a0 k hq hd h0 (fpq q a0 k hq hk) hk'
                    · obtain ⟨b0, g0, rfl, _⟩ := hlkq q' a2 hq' hl'
                      exact hinv.dj q q' a0 b0 h0 g0 hqq k (fpq q a0 k hq hk) (fpq q' b0 k hq' hk')
              have hfin : Rel E st1.sem ι' (a.put o.dst Go.undef) w1 := by
                have e1 : st1.sem = ⟨putT (st.tm.map (AV.dropInn p)) o.dst (.lf .void), lku st1.ob⟩ := by
                  rw [← ht]
                  cases o.dst <;> rfl
                rw [e1]
                refine ⟨hinv1, put_rel (F2.mapl (hr.tm.imp fun x v _ _ hxv => ARel.monoW hW hxv fun o' _ hne' => hfit o' hne')) o.dst (show ARel E _ ι' (.lf .void) Go.undef from rfl), by rw [put_df]; exact hr.df⟩
              have hkeep : Keep T.np st.sem.lk st1.sem.lk ι ι' := by
                intro q hq
                refine hfit q fun e => ?_
                subst e
                rw [blt_iff.2 hq] at hnp
                cases hnp
              have hex : (execOp a.eval o).run P w = .ok .skip w1 := by
                have h1 : (Instr.storeAt t (a.eval x) (a.eval y)).run P w = .ok () w1 := by
                  rw [hax, hvy]
                  simp only [Instr.storeAt, Instr.sureAddr, pure_bind, Sem.run_bind, hrun, Result.andThen_ok, Sem.run_pure]
                simp only [execOp, hop, Sem.run_bind, h1, Result.andThen_ok, Sem.run_pure]
              unfold Oper.wp
              rw [hex]
              exact hnext _ _ ι' hfin hkeep
            · cases hsz
        · cases ht
      · cases ht
    · cases ht
  · cases ht
end

end Go.Proofs.Ytiooamodldgalaa.Abs
