/-
One operation that is no call: what the evaluator says of it holds of the machine. Part one: the shapes of change, reading, and what only computes.
-/
import Derived.Test.YtiooamodldgalaaAbs4
namespace Go.Proofs.Ytiooamodldgalaa.Abs
open Go

def upd {β : Type} (f : Nat → β) (n : Nat) (b : β) (o : Nat) : β := if o = n then b else f o
theorem upd_same {β : Type} (f : Nat → β) (n : Nat) (b : β) : upd f n b n = b := by simp [upd]
theorem upd_ne {β : Type} (f : Nat → β) {n : Nat} (b : β) {o : Nat} (h : o ≠ n) : upd f n b o = f o := by simp [upd, h]

def apl (u : Upd) (lk : Nat → Option AO) (o : Nat) : Option AO :=
  match lku u.new o with
  | some a => some a
  | none => bif u.del.any (Nat.beq o) then none else match lk o with
    | some a => some (match lku u.set o with | some b => b | none => a)
    | none => none

theorem apl_pure (v : AV) (lk : Nat → Option AO) : apl (.pure v) lk = lk := by
  funext o
  simp only [apl, Upd.pure, lku, List.any_nil, cond_false]
  cases lk o <;> rfl

theorem apl_new (v : AV) (n : Nat) (a : AO) (b : Bool) (lk : Nat → Option AO) : apl ⟨v, [], [], [(n, a)], b⟩ lk = upd lk n (some a) := by
  funext o
  simp only [apl, lku, List.any_nil, cond_false]
  by_cases h : o = n
  · subst h; simp [upd]
  · have : Nat.beq n o = false := by
      cases hb : Nat.beq n o with
      | true => exact absurd (Nat.eq_of_beq_eq_true hb).symm h
      | false => rfl
    rw [this, upd_ne _ _ h]
    simp only [cond_false]
    cases lk o <;> rfl

theorem apl_set (v : AV) (n : Nat) (a : AO) (b : Bool) {lk : Nat → Option AO} (hn : (lk n).isSome = true) : apl ⟨v, [(n, a)], [], [], b⟩ lk = upd lk n (some a) := by
  funext o
  simp only [apl, lku, List.any_nil, cond_false]
  by_cases h : o = n
  · subst h
    rw [upd_same]
    cases hl : lk o with
    | none => simp [hl] at hn
    | some c => simp
  · have : Nat.beq n o = false := by
      cases hb : Nat.beq n o with
      | true => exact absurd (Nat.eq_of_beq_eq_true hb).symm h
      | false => rfl
    rw [this, upd_ne _ _ h]
    simp only [cond_false]
    cases lk o <;> rfl

/-- What one operation leaves. -/
def Step (E : Ctx) (lk : Nat → Option AO) (ι : Im) (r : Result Next) (u : Upd) : Prop :=
  ∃ v w' ι', (r = .ok (.value v) w' ∨ (r = .ok .skip w' ∧ v = Go.undef)) ∧ Inv E (apl u lk) ι' w' ∧ ARel E (sgOf (apl u lk)) ι' u.val v ∧
    ∀ o, lku u.new o = none → Fits (sgOf lk) (sgOf (apl u lk)) ι ι' o

section
variable {E : Ctx} {lk lk0 : Nat → Option AO} {ι : Im} {w w' : World} {P : Program} {T : Env}

theorem Step.pure (h : Inv E lk ι w) {r : Result Next} {x : AV} {v : Value} (hr : r = .ok (.value v) w) (hv : ARel E (sgOf lk) ι x v) : Step E lk ι r (.pure x) := by
  refine ⟨v, w, ι, .inl hr, ?_, ?_, fun o _ => ?_⟩
  · rw [apl_pure]; exact h
  · rw [apl_pure]; exact hv
  · rw [apl_pure]; exact Fits.refl o

def Im.put (ι : Im) (n : Nat) (v : Value) (g : Nat → Value) : Im := ⟨upd ι.v n v, upd ι.v2 n g⟩

theorem Im.put_ne (ι : Im) {n : Nat} (v : Value) (g : Nat → Value) {o : Nat} (h : o ≠ n) : (ι.put n v g).v o = ι.v o ∧ ∀ i, (ι.put n v g).v2 o i = ι.v2 o i := ⟨upd_ne _ _ h, fun i => by simp [Im.put, upd_ne _ _ h]⟩

/-- A new object, in new blocks. -/
theorem Inv.new (h : Inv E lk ι w) {n : Nat} (hn : lk n = none) (hfr : ∀ o a, lk o = some a → n ∉ a.ids) {a : AO} {v : Value} {g : Nat → Value}
    (ho : ORel E (sgOf (upd lk n (some a))) (ι.put n v g) w' n a)
    (hfp : ∀ k, fp (ι.put n v g) n a k → w.heap.size ≤ k ∧ k < w'.heap.size)
    (hb : ∀ k, k < w.heap.size → w'.heap[k]? = w.heap[k]?) (hsz : w.heap.size ≤ w'.heap.size) (hos : w'.os = w.os) (htape : w'.tape = w.tape) (hout : w'.output = w.output) :
    Inv E (upd lk n (some a)) (ι.put n v g) w' := by
  refine h.turn (fun o => o = n) ?_ ?_ ?_ ?_ ?_ ?_ hsz hos htape hout
  · intro o ho
    exact ⟨upd_ne _ _ ho, (ι.put_ne v g ho).1, (ι.put_ne v g ho).2⟩
  · intro o b p _ hl hp
    have hne : p ≠ n := fun e => hfr o b hl (e ▸ hp)
    exact .inr ⟨by simp [sgOf, upd_ne _ _ hne], (ι.put_ne v g hne).1, (ι.put_ne v g hne).2⟩
  · rintro o b rfl hl
    rw [upd_same] at hl
    injection hl with hl
    subst hl
    exact ho
  · intro k hk _
    exact hb k hk
  · rintro o b k rfl hl hk
    rw [upd_same] at hl
    injection hl with hl
    subst hl
    exact ⟨(hfp k hk).2, .inr (hfp k hk).1⟩
  · rintro o o' b b' rfl rfl _ _ hne
    exact absurd rfl hne

theorem Fits.new {n : Nat} {a : AO} {v : Value} {g : Nat → Value} {o : Nat} (h : o ≠ n) : Fits (sgOf lk) (sgOf (upd lk n (some a))) ι (ι.put n v g) o :=
  .inr ⟨by simp [sgOf, upd_ne _ _ h], (ι.put_ne v g h).1, (ι.put_ne v g h).2⟩

theorem lku_one {n : Nat} {a : AO} {o : Nat} (h : lku [(n, a)] o = none) : o ≠ n := by
  rintro rfl
  simp [lku] at h

/-- An object turned in its own blocks, of the same make. -/
theorem Inv.set (h : Inv E lk ι w) {n : Nat} {a b : AO} (hn : lk n = some a) (hs : sig b = sig a)
    (ho : ORel E (sgOf lk) ι w' n b) (hfp : ∀ k, fp ι n b k → fp ι n a k)
    (hb : ∀ k, k < w.heap.size → ¬ fp ι n a k → w'.heap[k]? = w.heap[k]?) (hsz : w'.heap.size = w.heap.size) (hos : w'.os = w.os) (htape : w'.tape = w.tape) (hout : w'.output = w.output) :
    Inv E (upd lk n (some b)) ι w' ∧ sgOf (upd lk n (some b)) = sgOf lk := by
  have hsg : sgOf (upd lk n (some b)) = sgOf lk := by
    funext o
    by_cases e : o = n
    · subst e; simp [sgOf, upd_same, hn, hs]
    · simp [sgOf, upd_ne _ _ e]
  refine ⟨h.turn (fun o => o = n) ?_ ?_ ?_ ?_ ?_ ?_ (by omega) hos htape hout, hsg⟩
  · intro o ho
    exact ⟨upd_ne _ _ ho, rfl, fun _ => rfl⟩
  · intro o b p _ _ _
    rw [hsg]
    exact Fits.refl p
  · rintro o c rfl hl
    rw [upd_same] at hl
    injection hl with hl
    subst hl
    rw [hsg]
    exact ho
  · intro k hk hX
    exact hb k hk (hX n a rfl hn)
  · rintro o c k rfl hl hk
    rw [upd_same] at hl
    injection hl with hl
    subst hl
    have := hfp k hk
    exact ⟨by rw [hsz]; exact (h.bd o a k hn this).1, .inl ⟨o, a, rfl, hn, this⟩⟩
  · rintro o o' b b' rfl rfl _ _ hne
    exact absurd rfl hne

/-! ### Values -/
theorem ofLeaf_rel (sg : Nat → Option Sig) (v : Value) : LRel E sg ι (ofLeaf v) v := by
  cases v <;> try exact trivial
  case bool b => exact rfl
  case int k n => exact rfl
  case string s => exact rfl
  case pointer a => cases a <;> first | exact rfl | exact trivial
  case slice a n c =>
    cases a <;> cases n <;> cases c <;> first | exact rfl | exact trivial

theorem lf_rel {sg : Nat → Option Sig} {x : LV} {v : Value} (h : LRel E sg ι x v) : ARel E sg ι (.lf x) v := h

theorem ofVal_rel (sg : Nat → Option Sig) (v : Value) : ARel E sg ι (ofVal v) v := by
  cases v
  case agg cs =>
    refine ⟨cs, rfl, ?_⟩
    have h : F2 (LRel E sg ι) (cs.toList.map ofLeaf) (cs.toList.map id) := F2.of_map _ fun x _ => ofLeaf_rel sg x
    simpa using h
  all_goals exact lf_rel (ofLeaf_rel sg _)

theorem AV.cells_rel {sg : Nat → Option Sig} {x : AV} {l : List LV} {v : Value} (h : x.cells? = some l) (hr : ARel E sg ι x v) : F2 (LRel E sg ι) l v.cells.toList ∨ (∃ y, l = [y] ∧ LRel E sg ι y v ∧ x = .lf y) := by
  cases x with
  | c x =>
    cases x with
    | leaf y =>
      simp [AV.cells?] at h
      subst h
      exact .inr ⟨y, rfl, hr, rfl⟩
    | agg l' =>
      simp [AV.cells?] at h
      subst h
      obtain ⟨cs, rfl, h2⟩ := hr
      exact .inl h2
  | tup l' => simp [AV.cells?] at h

theorem LRel.solid {x : LV} {v : Value} (hsub : ∀ o a, lk0 o = some a → lk o = some a) (h : LRel E (sgOf lk) ι x v) (hs : x.solid lk0 = true) (hι : ∀ o e t xs, lk o = some (.rows e t xs) → (ι.v o).oneCell' = true) (hm : ∀ o es, lk o = some (.mset es) → (ι.v o).oneCell' = true) : v.oneCell' = true := by
  cases x <;> simp [LV.solid] at hs <;> (try (simp only [LRel] at h; subst h; rfl))
  case ptr o off =>
    split at hs
    · rename_i t vs hl
      have := hsub _ _ hl
      obtain ⟨g, _, rfl⟩ := h (by simp [sgOf, this, sig])
      rfl
    · cases hs
  case own o =>
    split at hs
    · rename_i e t xs hl
      have := hsub _ _ hl
      have := h t xs.length (lens t xs) (by simp [sgOf, this, sig])
      subst this
      exact hι o e t xs (hsub _ _ hl)
    · cases hs
  case mp o =>
    split at hs
    · rename_i es hl
      have := hsub _ _ hl
      have := h (by simp [sgOf, this, sig])
      subst this
      exact hm o es (hsub _ _ hl)
    · cases hs
  case ro t xs =>
    obtain ⟨A, n, rfl, _⟩ := h
    rfl
  case fn f cs =>
    have : ∀ o ∈ cs, sgOf lk o = some .cells := by
      intro o ho
      have := hs o ho
      split at this
      · rename_i t vs hl
        simp [sgOf, hsub _ _ hl, sig]
      · cases this
    have := h this
    subst this
    rfl

theorem owns_oneCell {base : Nat} {e : TypeId} {size n : Nat} {v : Value} {xs : List Value} (h : w.ownsRow base e size v n xs) : v.oneCell' = true := by
  rcases h.2 with ⟨rfl, _⟩ | ⟨g, cap, cur, rfl, _⟩ <;> rfl

theorem owns_slice {base : Nat} {e : TypeId} {size n : Nat} {v : Value} {xs : List Value} (h : w.ownsRow base e size v n xs) : ∃ A c, v = .slice A n c ∧ n ≤ c ∧ n ≤ maxLen := by
  rcases h.2 with ⟨rfl, rfl⟩ | ⟨g, cap, cur, rfl, _, _, h1, h2, _⟩
  · exact ⟨none, 0, rfl, Nat.le_refl _, Nat.zero_le _⟩
  · exact ⟨_, cap, rfl, h1, Nat.le_trans h1 h2⟩

theorem RowRel.owns {o : Nat} {e : TypeId} {t : RT} {xs : List (El t)} (h : RowRel w ι o e t xs) : ∃ cs, w.ownsRow 0 e t.sz (ι.v o) xs.length cs := by
  cases t with
  | list e2 a => exact ⟨_, h.2.1⟩
  | _ => exact ⟨_, h.2⟩

theorem Inv.oneR (h : Inv E lk ι w) : ∀ o e t xs, lk o = some (.rows e t xs) → (ι.v o).oneCell' = true := fun o e t xs hl => by
  obtain ⟨cs, hc⟩ := RowRel.owns (h.ob o _ hl)
  exact owns_oneCell hc
theorem Inv.oneM (h : Inv E lk ι w) : ∀ o es, lk o = some (.mset es) → (ι.v o).oneCell' = true := fun o es hl => by
  obtain ⟨r, ms, cl, hv, _⟩ := h.ob o _ hl
  rw [hv]; rfl

theorem solids {l : List LV} {cs : List Value} (h : Inv E lk ι w) (hsub : ∀ o a, lk0 o = some a → lk o = some a) (hr : F2 (LRel E (sgOf lk) ι) l cs) (hs : l.all (LV.solid lk0) = true) : ∀ u ∈ cs, u.oneCell' = true := by
  induction hr with
  | nil => intro u hu; cases hu
  | cons hx _ ih =>
    simp at hs
    intro u hu
    rcases List.mem_cons.1 hu with rfl | hu
    · exact hx.solid hsub hs.1 h.oneR h.oneM
    · exact ih (by simpa using hs.2) u hu

theorem cells_of_one {v : Value} (h : v.oneCell' = true) : v.cells.toList = [v] := by
  cases v <;> simp [Value.oneCell'] at h <;> rfl

/-- The cells of a value that may lie in memory. -/
theorem AV.stored {x : AV} {l : List LV} {v : Value} (h : Inv E lk ι w) (hsub : ∀ o a, lk0 o = some a → lk o = some a) (hc : x.cells? = some l) (hr : ARel E (sgOf lk) ι x v) (hs : l.all (LV.solid lk0) = true) :
    F2 (LRel E (sgOf lk) ι) l v.cells.toList ∧ ∀ u ∈ v.cells.toList, u.oneCell' = true := by
  have key : F2 (LRel E (sgOf lk) ι) l v.cells.toList := by
    rcases AV.cells_rel hc hr with h1 | ⟨y, rfl, hy, rfl⟩
    · exact h1
    · have hs' : y.solid lk0 = true := by simpa using hs
      rw [cells_of_one (hy.solid hsub hs' h.oneR h.oneM)]
      exact .single hy
  exact ⟨key, solids h hsub key hs⟩
end

end Go.Proofs.Ytiooamodldgalaa.Abs
