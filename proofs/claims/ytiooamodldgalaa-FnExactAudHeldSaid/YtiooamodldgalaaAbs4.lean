/-
The types that the evaluator is told are the program's; small facts on runs and on rows of plain data.
-/
import Derived.Test.YtiooamodldgalaaAbs3
namespace Go.Proofs.Ytiooamodldgalaa.Abs
open Go

/-! ### Types -/
def valOf : LV → Value
  | .int k n => .int k n
  | .bool b => .bool b
  | .str s => .string s
  | .nilp => .pointer none
  | .nils => .slice none 0 0
  | .undef => .map none
  | _ => Go.undef

def plainLv : LV → Bool
  | .int _ _ | .bool _ | .str _ | .nilp | .nils | .undef => true
  | _ => false

def sameLv : LV → Value → Bool
  | .int k n, .int l m => decide (k = l) && decide (n = m)
  | .bool a, .bool b => a == b
  | .str a, .string b => decide (a = b)
  | .nilp, .pointer none => true
  | .nils, .slice none 0 0 => true
  | .undef, .map none => true
  | _, _ => false

def sameLvs : List LV → List Value → Bool
  | [], [] => true
  | x :: r, y :: s => sameLv x y && sameLvs r s
  | _, _ => false

def aggD : TypeDesc → Bool
  | .struct _ | .array _ _ => true
  | _ => false

def fieldsOk (P : Program) : List Field → List (Nat × Nat × Bool) → Bool
  | [], [] => true
  | f :: r, g :: s =>
    (Nat.beq f.offset g.1 && (match P.info? f.type with | some i => Nat.beq i.size g.2.1 | none => false) &&
      (match P.underlying f.type with | some d => aggD d == g.2.2 | none => false)) && fieldsOk P r s
  | _, _ => false

def tdOk (P : Program) : TD → TypeDesc → Bool
  | .int k, .int l => decide (k = l)
  | .bool, .bool => true
  | .str, .string => true
  | .ptr, .pointer _ => true
  | .slice e, .slice f => Nat.beq e f
  | .struct fs, .struct gs => fieldsOk P gs.toList fs
  | .map, .map k e => (match P.underlying k with | some (.int .i64) => true | _ => false) && (match P.info? e with | some i => (match i.zero with | some (.bool false) => true | _ => false) | none => false)
  | .array n e, .array m f => Nat.beq n m && Nat.beq e f
  | .other, _ => true
  | .func, _ => true
  | _, _ => false

def rtOk (T : Env) (i : TI) : Bool :=
  match i.rt with
  | none => true
  | some (.list e a) => Nat.beq i.size 1 && a.flat && (match i.zero with | [.nils] => true | _ => false) && (match i.td with | .slice f => Nat.beq e f | _ => false)
  | some u => u.flat && Nat.beq i.size u.sz && sameLvs i.zero (vals u u.zero)

def tiOk (P : Program) (T : Env) (t : TypeId) (i : TI) : Bool :=
  (match P.info? t with
   | some j => Nat.beq j.size i.size && Nat.beq j.bytes i.bytes && (match j.zero with | some z => sameLvs i.zero z.cells.toList | none => false)
   | none => false) &&
  (match P.underlying t with
   | some d => tdOk P i.td d && (aggD d == i.agg)
   | none => false) && rtOk T i

structure TyOk (P : Program) (T : Env) : Prop where
  ok : ∀ t i, T.ti t = some i → tiOk P T t i = true

theorem assoc_all {β : Type} {p : Nat → β → Bool} : ∀ {l : List (Nat × β)}, (l.all fun x => p x.1 x.2) = true → ∀ k b, assoc l k = some b → p k b = true
  | [], _, k, b, h => by simp [assoc] at h
  | (k', b') :: r, ha, k, b, h => by
    simp only [List.all_cons, Bool.and_eq_true] at ha
    simp only [assoc] at h
    cases hb : Nat.beq k' k with
    | true =>
      rw [hb] at h
      simp at h
      have := Nat.eq_of_beq_eq_true hb
      subst this; subst h
      exact ha.1
    | false =>
      rw [hb] at h
      exact assoc_all ha.2 k b h

theorem TyOk.of_all {P : Program} {T : Env} (h : (T.ty.all fun x => tiOk P T x.1 x.2) = true) : TyOk P T := ⟨fun t i hi => assoc_all h t i hi⟩

theorem sameLv_val {x : LV} {v : Value} (h : sameLv x v = true) : v = valOf x ∧ plainLv x = true := by
  cases x <;> cases v <;> simp [sameLv] at h
  · rename_i a; cases a <;> simp at h; exact ⟨rfl, rfl⟩
  · obtain ⟨rfl, rfl⟩ := h; exact ⟨rfl, rfl⟩
  · subst h; exact ⟨rfl, rfl⟩
  · subst h; exact ⟨rfl, rfl⟩
  · rename_i a; cases a <;> simp [sameLv] at h; exact ⟨rfl, rfl⟩
  · rename_i a n c
    cases a <;> cases n <;> cases c <;> simp [sameLv] at h
    exact ⟨rfl, rfl⟩

theorem sameLvs_val : ∀ {l : List LV} {vs : List Value}, sameLvs l vs = true → vs = l.map valOf ∧ l.all plainLv = true
  | [], [], _ => ⟨rfl, rfl⟩
  | [], _ :: _, h => by simp [sameLvs] at h
  | _ :: _, [], h => by simp [sameLvs] at h
  | x :: r, y :: s, h => by
    simp only [sameLvs, Bool.and_eq_true] at h
    obtain ⟨h1, h2⟩ := sameLv_val h.1
    obtain ⟨h3, h4⟩ := sameLvs_val h.2
    exact ⟨by rw [h1, h3]; rfl, by simp [h2, h4]⟩

section
variable {E : Ctx} {sg : Nat → Option Sig} {ι : Im} {w : World} {P : Program} {T : Env}

theorem LRel.plain {x : LV} (h : plainLv x = true) : LRel E sg ι x (valOf x) := by
  cases x <;> simp [plainLv] at h <;> first | rfl | trivial

theorem LRels.plain {l : List LV} (h : l.all plainLv = true) : F2 (LRel E sg ι) l (l.map valOf) := by
  induction l with
  | nil => exact .nil
  | cons x l ih =>
    simp at h
    exact .cons (LRel.plain h.1) (ih (by simpa using h.2))

/-! ### Plain data and its cells -/
theorem lvs_len : ∀ (t : RT) (x : El t), (lvs t x).length = t.sz
  | .int _, _ | .bool, _ | .str, _ | .list _ _, _ => rfl
  | .pair a b, x => by simp [lvs, lvs_len a, lvs_len b, RT.sz]

theorem vals_len : ∀ (t : RT) (x : El t), t.flat = true → (vals t x).length = t.sz
  | .int _, _, _ | .bool, _, _ | .str, _, _ => rfl
  | .pair a b, x, h => by
    simp [RT.flat] at h
    simp [vals, vals_len a _ h.1, vals_len b _ h.2, RT.sz]

theorem vals_one : ∀ (t : RT) (x : El t), ∀ u ∈ vals t x, u.oneCell' = true
  | .int _, _, u, hu => by simp [vals] at hu; subst hu; rfl
  | .bool, _, u, hu => by simp [vals] at hu; subst hu; rfl
  | .str, _, u, hu => by simp [vals] at hu; subst hu; rfl
  | .list _ _, _, u, hu => by simp [vals] at hu
  | .pair a b, x, u, hu => by
    simp [vals] at hu
    rcases hu with hu | hu
    · exact vals_one a _ u hu
    · exact vals_one b _ u hu

theorem lvs_vals : ∀ (t : RT) (x : El t), t.flat = true → F2 (LRel E sg ι) (lvs t x) (vals t x)
  | .int _, _, _ => .single rfl
  | .bool, _, _ => .single rfl
  | .str, _, _ => .single rfl
  | .pair a b, x, h => by
    simp [RT.flat] at h
    exact (lvs_vals a _ h.1).append (lvs_vals b _ h.2)

theorem unlv_vals : ∀ (t : RT) {l : List LV} {cs : List Value} {x : El t} {r : List LV}, F2 (LRel E sg ι) l cs → unlv t l = some (x, r) →
    ∃ cs', cs = vals t x ++ cs' ∧ F2 (LRel E sg ι) r cs'
  | .int k, l, cs, x, r, h, hu => by
    cases h with
    | nil => simp [unlv] at hu
    | cons h hr =>
      rename_i a b l' m'
      cases a <;> simp [unlv] at hu
      obtain ⟨rfl, rfl, rfl⟩ := hu
      have h : b = _ := h
      subst h
      exact ⟨m', rfl, hr⟩
  | .bool, l, cs, x, r, h, hu => by
    cases h with
    | nil => simp [unlv] at hu
    | cons h hr =>
      rename_i a b l' m'
      cases a <;> simp [unlv] at hu
      obtain ⟨rfl, rfl⟩ := hu
      have h : b = _ := h
      subst h
      exact ⟨m', rfl, hr⟩
  | .str, l, cs, x, r, h, hu => by
    cases h with
    | nil => simp [unlv] at hu
    | cons h hr =>
      rename_i a b l' m'
      cases a <;> simp [unlv] at hu
      obtain ⟨rfl, rfl⟩ := hu
      have h : b = _ := h
      subst h
      exact ⟨m', rfl, hr⟩
  | .list _ _, l, cs, x, r, h, hu => by simp [unlv] at hu
  | .pair a b, l, cs, x, r, h, hu => by
    simp only [unlv] at hu
    split at hu
    · rename_i y r1 hy
      split at hu
      · rename_i z r2 hz
        simp at hu
        obtain ⟨rfl, rfl⟩ := hu
        obtain ⟨c1, rfl, h1⟩ := unlv_vals a h hy
        obtain ⟨c2, rfl, h2⟩ := unlv_vals b h1 hz
        exact ⟨c2, by simp [vals], h2⟩
      · cases hu
    · cases hu

theorem unlv_all {t : RT} {l : List LV} {cs : List Value} {x : El t} (h : F2 (LRel E sg ι) l cs) (hu : unlv t l = some (x, [])) : cs = vals t x := by
  obtain ⟨cs', rfl, h2⟩ := unlv_vals t h hu
  cases h2
  simp

/-! ### Lists laid end to end -/
theorem fm_len {α β : Type} {f : α → List β} {n : Nat} (hf : ∀ x, (f x).length = n) : ∀ (xs : List α), (xs.flatMap f).length = xs.length * n
  | [] => by simp
  | x :: xs => by simp only [List.flatMap_cons, List.length_append, hf, fm_len hf xs, List.length_cons]; rw [Nat.add_mul, Nat.one_mul, Nat.add_comm]

theorem fm_drop {α β : Type} {f : α → List β} {n : Nat} (hf : ∀ x, (f x).length = n) : ∀ (xs : List α) (i : Nat), (xs.flatMap f).drop (i * n) = (xs.drop i).flatMap f
  | [], i => by simp
  | x :: xs, 0 => by simp
  | x :: xs, i + 1 => by
    simp only [List.flatMap_cons, List.drop_succ_cons]
    rw [Nat.add_mul, Nat.one_mul, Nat.add_comm, ← List.drop_drop, ← hf x, List.drop_left, hf x]
    exact fm_drop hf xs i

theorem fm_take {α β : Type} {f : α → List β} {n : Nat} (hf : ∀ x, (f x).length = n) : ∀ (xs : List α) (i : Nat), (xs.flatMap f).take (i * n) = (xs.take i).flatMap f
  | [], i => by simp
  | x :: xs, 0 => by simp
  | x :: xs, i + 1 => by
    simp only [List.flatMap_cons, List.take_succ_cons]
    rw [Nat.add_mul, Nat.one_mul, Nat.add_comm, ← hf x, List.take_length_add_append, hf x, fm_take hf xs i]

theorem fm_get {α β : Type} {f : α → List β} {n : Nat} (hf : ∀ x, (f x).length = n) {xs : List α} {i : Nat} {x : α} (h : xs[i]? = some x) {j : Nat} (hj : j < n) : (xs.flatMap f)[i * n + j]? = (f x)[j]? := by
  have h1 : (xs.flatMap f)[i * n + j]? = ((xs.flatMap f).drop (i * n))[j]? := by rw [List.getElem?_drop]
  rw [h1, fm_drop hf]
  have h2 : xs.drop i = x :: xs.drop (i + 1) := by
    obtain ⟨hl, hx⟩ := List.getElem?_eq_some_iff.1 h
    rw [← hx]; exact List.drop_eq_getElem_cons hl
  rw [h2, List.flatMap_cons, List.getElem?_append_left (by rw [hf]; exact hj)]

theorem fm_set {α β : Type} {f : α → List β} {n : Nat} (hf : ∀ x, (f x).length = n) {xs : List α} {i : Nat} (h : i < xs.length) (x : α) :
    (xs.set i x).flatMap f = (xs.flatMap f).take (i * n) ++ f x ++ (xs.flatMap f).drop ((i + 1) * n) := by
  rw [fm_take hf, fm_drop hf]
  rw [List.set_eq_take_append_cons_drop, if_pos h]
  simp

/-! ### Runs -/
theorem run_info {t : TypeId} {i : TypeInfo} (h : P.info? t = some i) (w : World) : (typeInfo t).run P w = .ok i w := by
  simp [typeInfo, h]
theorem run_size {t : TypeId} {i : TypeInfo} (h : P.info? t = some i) (w : World) : (sizeOf t).run P w = .ok i.size w := by
  simp [sizeOf, typeInfo, h]
theorem run_zero {t : TypeId} {i : TypeInfo} {z : Value} (h : P.info? t = some i) (hz : i.zero = some z) (w : World) : (zeroValue t).run P w = .ok z w := by
  simp [zeroValue, typeInfo, h, hz]
theorem run_isAgg {t : TypeId} {d : TypeDesc} (h : P.underlying t = some d) (w : World) : (isAgg t).run P w = .ok (aggD d) w := by
  unfold isAgg
  rw [Sem.run_bind, run_underlying h w]
  cases d <;> rfl

structure TiF (P : Program) (T : Env) (t : TypeId) (i : TI) : Prop where
  facts : ∃ j d z, P.info? t = some j ∧ j.size = i.size ∧ j.bytes = i.bytes ∧ j.zero = some z ∧ z.cells.toList = i.zero.map valOf ∧ i.zero.all plainLv = true ∧
    P.underlying t = some d ∧ tdOk P i.td d = true ∧ aggD d = i.agg
  rt : rtOk T i = true

theorem TyOk.fact (h : TyOk P T) {t : TypeId} {i : TI} (hi : T.ti t = some i) : TiF P T t i := by
  have h0 := h.ok t i hi
  simp only [tiOk, Bool.and_eq_true] at h0
  obtain ⟨⟨h1, h2⟩, h3⟩ := h0
  split at h1
  · rename_i j hj
    split at h2
    · rename_i d hd
      simp only [Bool.and_eq_true] at h1 h2
      obtain ⟨⟨hs, hb⟩, hz⟩ := h1
      split at hz
      · rename_i z hz'
        obtain ⟨e1, e2⟩ := sameLvs_val hz
        exact ⟨⟨j, d, z, hj, Nat.eq_of_beq_eq_true hs, Nat.eq_of_beq_eq_true hb, hz', e1, e2, hd, h2.1, by simpa using h2.2⟩, h3⟩
      · cases hz
    · cases h2
  · cases h1
end

end Go.Proofs.Ytiooamodldgalaa.Abs
