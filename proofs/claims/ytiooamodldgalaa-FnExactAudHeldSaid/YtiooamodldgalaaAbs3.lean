/-
What abstract values and objects say of the machine's values and memory; how that is kept when memory turns.
-/
import Derived.Test.YtiooamodldgalaaAbs2
import Derived.Laws.OwnMore
import Derived.Laws.CopyRow
import Derived.Orders
namespace Go.Proofs.Ytiooamodldgalaa.Abs
open Go

/-! ### Two lists, place by place -/
inductive F2 {α β : Type} (R : α → β → Prop) : List α → List β → Prop where
  | nil : F2 R [] []
  | cons {a : α} {b : β} {l : List α} {m : List β} : R a b → F2 R l m → F2 R (a :: l) (b :: m)

namespace F2
variable {α β : Type} {R R' : α → β → Prop} {l l' : List α} {m m' : List β}
theorem length (h : F2 R l m) : l.length = m.length := by
  induction h with
  | nil => rfl
  | cons _ _ ih => simp [ih]
theorem append (h : F2 R l m) (h' : F2 R l' m') : F2 R (l ++ l') (m ++ m') := by
  induction h with
  | nil => exact h'
  | cons h _ ih => exact .cons h ih
theorem take (h : F2 R l m) (n : Nat) : F2 R (l.take n) (m.take n) := by
  induction h generalizing n with
  | nil => simp; exact .nil
  | cons h _ ih =>
    cases n with
    | zero => exact .nil
    | succ n => exact .cons h (ih n)
theorem drop (h : F2 R l m) (n : Nat) : F2 R (l.drop n) (m.drop n) := by
  induction h generalizing n with
  | nil => simp; exact .nil
  | cons h hr ih =>
    cases n with
    | zero => exact .cons h hr
    | succ n => exact ih n
theorem get (h : F2 R l m) {i : Nat} {a : α} (ha : l[i]? = some a) : ∃ b, m[i]? = some b ∧ R a b := by
  induction h generalizing i with
  | nil => simp at ha
  | cons h _ ih =>
    cases i with
    | zero => simp at ha; subst ha; exact ⟨_, rfl, h⟩
    | succ i => simpa using ih (by simpa using ha)
theorem imp (h : F2 R l m) (hi : ∀ a b, a ∈ l → b ∈ m → R a b → R' a b) : F2 R' l m := by
  induction h with
  | nil => exact .nil
  | cons h _ ih => exact .cons (hi _ _ (by simp) (by simp) h) (ih fun a b ha hb => hi a b (by simp [ha]) (by simp [hb]))
theorem of_map {γ : Type} {f : γ → α} {g : γ → β} (l : List γ) (h : ∀ x ∈ l, R (f x) (g x)) : F2 R (l.map f) (l.map g) := by
  induction l with
  | nil => exact .nil
  | cons x l ih => exact .cons (h x (by simp)) (ih fun y hy => h y (by simp [hy]))
theorem set (h : F2 R l m) (n : Nat) {a : α} {b : β} (hab : R a b) : F2 R (l.set n a) (m.set n b) := by
  induction h generalizing n with
  | nil => exact .nil
  | cons h hr ih =>
    cases n with
    | zero => exact .cons hab hr
    | succ n => exact .cons h (ih n)
theorem replicate (n : Nat) {a : α} {b : β} (hab : R a b) : F2 R (List.replicate n a) (List.replicate n b) := by
  induction n with
  | zero => exact .nil
  | succ n ih => exact .cons hab ih
theorem mapl {γ : Type} {f : γ → α} {l : List γ} (h : F2 (fun x b => R (f x) b) l m) : F2 R (l.map f) m := by
  induction h with
  | nil => exact .nil
  | cons h _ ih => exact .cons h ih
theorem flip (h : F2 R l m) : F2 (fun b a => R a b) m l := by
  induction h with
  | nil => exact .nil
  | cons h _ ih => exact .cons h ih
theorem single {a : α} {b : β} (h : R a b) : F2 R [a] [b] := .cons h .nil
theorem split (h : F2 R (l ++ l') m) : ∃ m1 m2, m = m1 ++ m2 ∧ F2 R l m1 ∧ F2 R l' m2 := by
  induction l generalizing m with
  | nil => exact ⟨[], m, rfl, .nil, h⟩
  | cons a l ih =>
    cases h with
    | cons h hr =>
      obtain ⟨m1, m2, rfl, h1, h2⟩ := ih hr
      exact ⟨_ :: m1, m2, rfl, .cons h h1, h2⟩
end F2

structure Ctx where
  w0 : World
  U : Nat → Prop
  S : Nat → Prop

structure Im where
  v : Nat → Value
  v2 : Nat → Nat → Value

def Agree (E : Ctx) (w : World) : Prop := ∀ k, E.S k → w.heap[k]? = E.w0.heap[k]?

/-! ### Reading what stays: in the elder world, in blocks of S -/
def SS (E : Ctx) {α : Type} (R : α → List Value → Prop) (sz : Nat) (A : Option Addr) (xs : List α) : Prop :=
  xs.length ≤ maxLen ∧ (0 < xs.length → ∃ ad, A = some ad ∧ E.S ad.block ∧ ∀ (j : Nat) (x : α), xs[j]? = some x → ∃ c, c.length = sz ∧ R x c ∧ ∀ (i : Nat) (u : Value), c[i]? = some u → E.w0.cell? (ad.add (j * sz + i)) = some u)

def SV (E : Ctx) : (t : RT) → El t → List Value → Prop
  | .int k, n, cs => cs = [.int k n]
  | .bool, b, cs => cs = [.bool b]
  | .str, s, cs => cs = [.string s]
  | .pair a b, x, cs => ∃ c d, cs = c ++ d ∧ SV E a x.1 c ∧ SV E b x.2 d
  | .list _ a, xs, cs => ∃ A n, cs = [.slice A xs.length n] ∧ xs.length ≤ n ∧ SS E (SV E a) a.sz A xs

/-! ### What is told of an object beside what it holds -/
inductive Sig where
  | cells
  | rows (t : RT) (n : Nat) (ls : List Nat)
  | mset

def lens : (t : RT) → List (El t) → List Nat
  | .list _ _, xs => xs.map List.length
  | _, _ => []

def sig : AO → Sig
  | .cells _ _ => .cells
  | .rows _ t xs => .rows t xs.length (lens t xs)
  | .mset _ => .mset

def sgOf (lk : Nat → Option AO) (o : Nat) : Option Sig := (lk o).map sig

def LRel (E : Ctx) (sg : Nat → Option Sig) (ι : Im) : LV → Value → Prop
  | .undef, _ => True
  | .void, v => v = Go.undef
  | .int k n, v => v = .int k n
  | .bool b, v => v = .bool b
  | .str s, v => v = .string s
  | .nilp, v => v = .pointer none
  | .nils, v => v = .slice none 0 0
  | .ptr o off, v => sg o = some .cells → ∃ g, ι.v o = .pointer (some ⟨g, 0, none⟩) ∧ v = .pointer (some ⟨g, off, none⟩)
  | .eptr o i off, v => ∀ t n ls, sg o = some (.rows t n ls) → i < n ∧ ∃ g m c, ι.v o = .slice (some ⟨g, 0, none⟩) m c ∧ v = .pointer (some ⟨g, i * t.sz + off, none⟩)
  | .iptr o i j off, v => ∀ e a n ls, sg o = some (.rows (.list e a) n ls) → i < n ∧ j < ls.getD i 0 ∧ ∃ g m c, ι.v2 o i = .slice (some ⟨g, 0, none⟩) m c ∧ v = .pointer (some ⟨g, j * a.sz + off, none⟩)
  | .rptr t x off, v => ∃ ad cs, v = .pointer (some ad) ∧ SV E t x cs ∧ E.S ad.block ∧ ∀ (j : Nat) (u : Value), cs[off + j]? = some u → E.w0.cell? (ad.add j) = some u
  | .own o, v => ∀ t n ls, sg o = some (.rows t n ls) → v = ι.v o
  | .view o lo hi, v => ∀ t n ls, sg o = some (.rows t n ls) → lo ≤ hi ∧ hi ≤ n ∧ ∃ a m c, ι.v o = .slice a m c ∧ v = .slice (if c = lo then a else a.map (·.add (lo * t.sz))) (hi - lo) (c - lo)
  | .inn o i, v => ∀ t n ls, sg o = some (.rows t n ls) → i < n ∧ v = ι.v2 o i
  | .ro t xs, v => ∃ A n, v = .slice A xs.length n ∧ xs.length ≤ n ∧ SS E (SV E t) t.sz A xs
  | .mp o, v => sg o = some .mset → v = ι.v o
  | .sref o n, v => sg o = some .cells → ∃ g, ι.v o = .pointer (some ⟨g, 0, none⟩) ∧ v = .slice (some ⟨g, 0, none⟩) n n
  | .fn f cs, v => (∀ o ∈ cs, sg o = some .cells) → v = .func (.func f) #[] (cs.map ι.v).toArray

def CRel (E : Ctx) (sg : Nat → Option Sig) (ι : Im) : CV → Value → Prop
  | .leaf x, v => LRel E sg ι x v
  | .agg l, v => ∃ cs : Array Value, v = .agg cs ∧ F2 (LRel E sg ι) l cs.toList

def ARel (E : Ctx) (sg : Nat → Option Sig) (ι : Im) : AV → Value → Prop
  | .c x, v => CRel E sg ι x v
  | .tup l, v => ∃ vs : Array Value, v = .tuple vs ∧ F2 (CRel E sg ι) l vs.toList

/-! ### Objects -/
def flatV (t : RT) (xs : List (El t)) : List Value := xs.flatMap (vals t)

def RowRel (w : World) (ι : Im) (o : Nat) (e : TypeId) : (t : RT) → List (El t) → Prop
  | .list e2 a, xs => a.flat = true ∧ w.ownsRow 0 e 1 (ι.v o) xs.length ((List.range xs.length).map (ι.v2 o)) ∧
      (∀ i x, xs[i]? = some x → w.ownsRow 0 e2 a.sz (ι.v2 o i) x.length (flatV a x)) ∧
      (∀ i k, i < xs.length → (ι.v2 o i).ownBlock = some k → (ι.v o).ownBlock ≠ some k) ∧
      (∀ i j k, i < xs.length → j < xs.length → i ≠ j → (ι.v2 o i).ownBlock = some k → (ι.v2 o j).ownBlock ≠ some k)
  | t, xs => t.flat = true ∧ w.ownsRow 0 e t.sz (ι.v o) xs.length (flatV t xs)

def entryOf (n : Int) (b : Nat) : MapEntry := ⟨.int .i64 n, .bool true, b⟩

def ORel (E : Ctx) (sg : Nat → Option Sig) (ι : Im) (w : World) (o : Nat) : AO → Prop
  | .cells t vs => ∃ g cs, ι.v o = .pointer (some ⟨g, 0, none⟩) ∧ w.heap[g]? = some (.cells cs t (0, 0)) ∧ (∀ u ∈ cs.toList, u.oneCell' = true) ∧ F2 (LRel E sg ι) vs cs.toList
  | .rows e t xs => RowRel w ι o e t xs
  | .mset es => ∃ r ms cl, ι.v o = .map (some r) ∧ w.heap[r]? = some (.map ms cl) ∧ ms.toList.map (fun m => (m.key, m.val)) = es.map fun n => (Value.int .i64 n, Value.bool true)

def isIn (t : RT) : Bool := match t with | .list _ _ => true | _ => false

/-- The blocks of an object. -/
def fp (ι : Im) (o : Nat) : AO → Nat → Prop
  | .cells _ _, k => ι.v o = .pointer (some ⟨k, 0, none⟩)
  | .rows _ t xs, k => (ι.v o).ownBlock = some k ∨ (isIn t = true ∧ ∃ i, i < xs.length ∧ (ι.v2 o i).ownBlock = some k)
  | .mset _, k => ι.v o = .map (some k)

structure Inv (E : Ctx) (lk : Nat → Option AO) (ι : Im) (w : World) : Prop where
  ob : ∀ o a, lk o = some a → ORel E (sgOf lk) ι w o a
  dj : ∀ o o' a a', lk o = some a → lk o' = some a' → o ≠ o' → ∀ k, fp ι o a k → ¬ fp ι o' a' k
  bd : ∀ o a k, lk o = some a → fp ι o a k → k < w.heap.size ∧ (E.U k ∨ E.w0.heap.size ≤ k)
  sz : E.w0.heap.size ≤ w.heap.size
  os : w.os = E.w0.os
  tape : w.tape = E.w0.tape
  out : w.output = E.w0.output
  fr : ∀ k, k < E.w0.heap.size → ¬ E.U k → w.heap[k]? = E.w0.heap[k]?
  st : ∀ k, E.S k → k < E.w0.heap.size ∧ ¬ E.U k

section
variable {E : Ctx} {sg sg' : Nat → Option Sig} {ι ι' : Im} {w w' : World} {lk lk' : Nat → Option AO}

theorem Inv.agree (h : Inv E lk ι w) : Agree E w := fun k hk => h.fr k (h.st k hk).1 (h.st k hk).2

/-- Nothing is turned for those who lead to what stays. -/
def Fits (sg sg' : Nat → Option Sig) (ι ι' : Im) (o : Nat) : Prop := sg' o = none ∨ (sg' o = sg o ∧ ι'.v o = ι.v o ∧ ∀ i, ι'.v2 o i = ι.v2 o i)

theorem Fits.refl (o : Nat) : Fits sg sg ι ι o := .inr ⟨rfl, rfl, fun _ => rfl⟩

theorem LRel.mono {x : LV} {v : Value} (h : LRel E sg ι x v) (hf : ∀ o ∈ x.ids, Fits sg sg' ι ι' o) : LRel E sg' ι' x v := by
  cases x with
  | ptr o off =>
    intro hs
    rcases hf o (by simp [LV.ids]) with hn | ⟨h1, h2, _⟩
    · rw [hn] at hs; cases hs
    · rw [h2]; exact h (h1 ▸ hs)
  | eptr o i off =>
    intro t n ls hs
    rcases hf o (by simp [LV.ids]) with hn | ⟨h1, h2, _⟩
    · rw [hn] at hs; cases hs
    · rw [h2]; exact h t n ls (h1 ▸ hs)
  | iptr o i j off =>
    intro e a n ls hs
    rcases hf o (by simp [LV.ids]) with hn | ⟨h1, _, h3⟩
    · rw [hn] at hs; cases hs
    · rw [h3]; exact h e a n ls (h1 ▸ hs)
  | own o =>
    intro t n ls hs
    rcases hf o (by simp [LV.ids]) with hn | ⟨h1, h2, _⟩
    · rw [hn] at hs; cases hs
    · rw [h2]; exact h t n ls (h1 ▸ hs)
  | view o lo hi =>
    intro t n ls hs
    rcases hf o (by simp [LV.ids]) with hn | ⟨h1, h2, _⟩
    · rw [hn] at hs; cases hs
    · rw [h2]; exact h t n ls (h1 ▸ hs)
  | inn o i =>
    intro t n ls hs
    rcases hf o (by simp [LV.ids]) with hn | ⟨h1, _, h3⟩
    · rw [hn] at hs; cases hs
    · rw [h3]; exact h t n ls (h1 ▸ hs)
  | mp o =>
    intro hs
    rcases hf o (by simp [LV.ids]) with hn | ⟨h1, h2, _⟩
    · rw [hn] at hs; cases hs
    · rw [h2]; exact h (h1 ▸ hs)
  | sref o n =>
    intro hs
    rcases hf o (by simp [LV.ids]) with hn | ⟨h1, h2, _⟩
    · rw [hn] at hs; cases hs
    · rw [h2]; exact h (h1 ▸ hs)
  | fn f cs =>
    intro hs
    have key : ∀ o ∈ cs, sg o = some .cells ∧ ι'.v o = ι.v o := by
      intro o ho
      rcases hf o (by simpa [LV.ids] using ho) with hn | ⟨h1, h2, _⟩
      · have := hs o ho; rw [hn] at this; cases this
      · exact ⟨h1 ▸ hs o ho, h2⟩
    have h0 := h (fun o ho => (key o ho).1)
    rw [h0]
    congr 2
    exact List.map_congr_left fun o ho => (key o ho).2.symm
  | _ => exact h

theorem LRels.mono {l : List LV} {cs : List Value} (h : F2 (LRel E sg ι) l cs) (hf : ∀ o ∈ l.flatMap LV.ids, Fits sg sg' ι ι' o) : F2 (LRel E sg' ι') l cs :=
  F2.imp h fun x _ hx _ hr => LRel.mono hr fun o ho => hf o (List.mem_flatMap.2 ⟨x, hx, ho⟩)

theorem CRel.mono {x : CV} {v : Value} (h : CRel E sg ι x v) (hf : ∀ o ∈ x.ids, Fits sg sg' ι ι' o) : CRel E sg' ι' x v := by
  cases x with
  | leaf x => exact LRel.mono h hf
  | agg l =>
    obtain ⟨cs, rfl, h⟩ := h
    exact ⟨cs, rfl, LRels.mono h hf⟩

theorem ARel.mono {x : AV} {v : Value} (h : ARel E sg ι x v) (hf : ∀ o ∈ x.ids, Fits sg sg' ι ι' o) : ARel E sg' ι' x v := by
  cases x with
  | c x => exact CRel.mono h hf
  | tup l =>
    obtain ⟨vs, rfl, h⟩ := h
    exact ⟨vs, rfl, F2.imp h fun x _ hx _ hr => CRel.mono hr fun o ho => hf o (List.mem_flatMap.2 ⟨x, hx, ho⟩)⟩

/-! ### Rows depend on their own blocks alone -/
theorem owns_move {base : Nat} {e : TypeId} {size n : Nat} {v : Value} {xs : List Value} (h : w.ownsRow base e size v n xs) (hm : ∀ k, v.ownBlock = some k → w'.heap[k]? = w.heap[k]?) : w'.ownsRow base e size v n xs := by
  obtain ⟨h1, h2⟩ := h
  refine ⟨h1, ?_⟩
  rcases h2 with h2 | ⟨g, cap, cur, rfl, hg, hh, r⟩
  · exact .inl h2
  · exact .inr ⟨g, cap, cur, rfl, hg, (hm g (by simp [Value.ownBlock])).trans hh, r⟩

theorem RowRel.move {o : Nat} {e : TypeId} {t : RT} {xs : List (El t)} (h : RowRel w ι o e t xs) (hm : ∀ k, fp ι o (.rows e t xs) k → w'.heap[k]? = w.heap[k]?) (h1 : ι'.v o = ι.v o) (h2 : ∀ i, ι'.v2 o i = ι.v2 o i) : RowRel w' ι' o e t xs := by
  have e2 : ι'.v2 o = ι.v2 o := funext h2
  cases t with
  | list e2' a =>
    obtain ⟨hf, ho, hi, hd1, hd2⟩ := h
    refine ⟨hf, ?_, ?_, ?_, ?_⟩
    · rw [h1, e2]; exact owns_move ho fun k hk => hm k (.inl hk)
    · intro i x hx
      rw [h2]
      exact owns_move (hi i x hx) fun k hk => hm k (.inr ⟨rfl, i, (List.getElem?_eq_some_iff.1 hx).1, hk⟩)
    · intro i k hi hk; rw [h1]; rw [h2] at hk; exact hd1 i k hi hk
    · intro i j k hi hj hne hk; rw [h2]; rw [h2] at hk; exact hd2 i j k hi hj hne hk
  | _ => exact ⟨h.1, by rw [h1]; exact owns_move h.2 fun k hk => hm k (.inl hk)⟩

theorem ORel.move {o : Nat} {a : AO} (h : ORel E sg ι w o a) (hm : ∀ k, fp ι o a k → w'.heap[k]? = w.heap[k]?) (h1 : ι'.v o = ι.v o) (h2 : ∀ i, ι'.v2 o i = ι.v2 o i) (hf : ∀ p ∈ a.ids, Fits sg sg' ι ι' p) : ORel E sg' ι' w' o a := by
  cases a with
  | cells t vs =>
    obtain ⟨g, cs, hv, hg, h1c, hr⟩ := h
    exact ⟨g, cs, h1.trans hv, (hm g hv).trans hg, h1c, LRels.mono hr hf⟩
  | rows e t xs => exact RowRel.move h hm h1 h2
  | mset es =>
    obtain ⟨r, ms, cl, hv, hg, he⟩ := h
    exact ⟨r, ms, cl, h1.trans hv, (hm r hv).trans hg, he⟩

theorem fp_congr {o : Nat} {a : AO} (h1 : ι'.v o = ι.v o) (h2 : ∀ i, ι'.v2 o i = ι.v2 o i) (k : Nat) : fp ι' o a k ↔ fp ι o a k := by
  cases a <;> simp [fp, h1, h2]

/-! ### The one law of change: X are the objects that turn, go, or are new -/
theorem Inv.turn (h : Inv E lk ι w) (X : Nat → Prop)
    (hstay : ∀ o, ¬ X o → lk' o = lk o ∧ ι'.v o = ι.v o ∧ ∀ i, ι'.v2 o i = ι.v2 o i)
    (hids : ∀ o a p, ¬ X o → lk o = some a → p ∈ a.ids → Fits (sgOf lk) (sgOf lk') ι ι' p)
    (hob : ∀ o a, X o → lk' o = some a → ORel E (sgOf lk') ι' w' o a)
    (hblk : ∀ k, k < w.heap.size → (∀ o a, X o → lk o = some a → ¬ fp ι o a k) → w'.heap[k]? = w.heap[k]?)
    (hfp : ∀ o a k, X o → lk' o = some a → fp ι' o a k → k < w'.heap.size ∧ ((∃ o' a', X o' ∧ lk o' = some a' ∧ fp ι o' a' k) ∨ w.heap.size ≤ k))
    (hdj : ∀ o o' a a', X o → X o' → lk' o = some a → lk' o' = some a' → o ≠ o' → ∀ k, fp ι' o a k → ¬ fp ι' o' a' k)
    (hsz : w.heap.size ≤ w'.heap.size) (hos : w'.os = w.os) (htape : w'.tape = w.tape) (hout : w'.output = w.output) : Inv E lk' ι' w' := by
  have keep : ∀ o a k, ¬ X o → lk o = some a → fp ι o a k → w'.heap[k]? = w.heap[k]? := by
    intro o a k hx ho hk
    refine hblk k (h.bd o a k ho hk).1 fun o' a' hx' ho' hk' => ?_
    exact h.dj o o' a a' ho ho' (fun e => hx (e ▸ hx')) k hk hk'
  constructor
  · intro o a ho
    by_cases hx : X o
    · exact hob o a hx ho
    · obtain ⟨e1, e2, e3⟩ := hstay o hx
      rw [e1] at ho
      exact (h.ob o a ho).move (fun k hk => keep o a k hx ho hk) e2 e3 (fun p hp => hids o a p hx ho hp)
  · intro o o' a a' ho ho' hne k hk hk'
    by_cases hx : X o <;> by_cases hx' : X o'
    · exact hdj o o' a a' hx hx' ho ho' hne k hk hk'
    · obtain ⟨e1, e2, e3⟩ := hstay o' hx'
      rw [e1] at ho'
      rw [fp_congr e2 e3] at hk'
      rcases (hfp o a k hx ho hk).2 with ⟨p, b, hp, hb, hpk⟩ | hge
      · exact h.dj p o' b a' hb ho' (fun e => hx' (e ▸ hp)) k hpk hk'
      · have := (h.bd o' a' k ho' hk').1; omega
    · obtain ⟨e1, e2, e3⟩ := hstay o hx
      rw [e1] at ho
      rw [fp_congr e2 e3] at hk
      rcases (hfp o' a' k hx' ho' hk').2 with ⟨p, b, hp, hb, hpk⟩ | hge
      · exact h.dj p o b a hb ho (fun e => hx (e ▸ hp)) k hpk hk
      · have := (h.bd o a k ho hk).1; omega
    · obtain ⟨e1, e2, e3⟩ := hstay o hx
      obtain ⟨f1, f2, f3⟩ := hstay o' hx'
      rw [e1] at ho
      rw [f1] at ho'
      rw [fp_congr e2 e3] at hk
      rw [fp_congr f2 f3] at hk'
      exact h.dj o o' a a' ho ho' hne k hk hk'
  · intro o a k ho hk
    by_cases hx : X o
    · obtain ⟨h1, h2⟩ := hfp o a k hx ho hk
      refine ⟨h1, ?_⟩
      rcases h2 with ⟨p, b, hp, hb, hpk⟩ | hge
      · exact (h.bd p b k hb hpk).2
      · exact .inr (Nat.le_trans h.sz hge)
    · obtain ⟨e1, e2, e3⟩ := hstay o hx
      rw [e1] at ho
      rw [fp_congr e2 e3] at hk
      have := h.bd o a k ho hk
      exact ⟨Nat.lt_of_lt_of_le this.1 hsz, this.2⟩
  · exact Nat.le_trans h.sz hsz
  · exact hos.trans h.os
  · exact htape.trans h.tape
  · exact hout.trans h.out
  · intro k hk hu
    rw [← h.fr k hk hu]
    refine hblk k (Nat.lt_of_lt_of_le hk h.sz) fun o a _ ho hf => ?_
    rcases (h.bd o a k ho hf).2 with h1 | h1
    · exact hu h1
    · omega
  · exact h.st

/-- Draws alone. -/
theorem Inv.same (h : Inv E lk ι w) (hh : w'.heap = w.heap) (hos : w'.os = w.os) (htape : w'.tape = w.tape) (hout : w'.output = w.output) : Inv E lk ι w' :=
  h.turn (fun _ => False) (fun _ _ => ⟨rfl, rfl, fun _ => rfl⟩) (fun _ _ _ _ _ _ => Fits.refl _) (fun _ _ hx => hx.elim) (fun k _ _ => by rw [hh]) (fun _ _ _ hx => hx.elim)
    (fun _ _ _ _ hx => hx.elim) (by rw [hh]; exact Nat.le_refl _) hos htape hout
end

end Go.Proofs.Ytiooamodldgalaa.Abs
