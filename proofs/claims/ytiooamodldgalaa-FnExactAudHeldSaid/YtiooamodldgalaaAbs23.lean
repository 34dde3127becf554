/-
From a reading of the arguments, as the statements tell it, to plain data; and what a law's plain function says of the law's call.
-/
import Derived.Test.YtiooamodldgalaaAbs22
import Derived.Below
import Derived.ChangeShapes
namespace Go.Proofs.Ytiooamodldgalaa.Abs
open Go Go.ChangeShapes Go.RowKit

def leaves : RT → List RT
  | .pair a b => leaves a ++ leaves b
  | t => [t]
def leafB : RT → Bool
  | .pair _ _ => false
  | _ => true

theorem leaves_len : ∀ t : RT, (leaves t).length = t.sz
  | .pair a b => by simp [leaves, RT.sz, leaves_len a, leaves_len b]
  | .int _ | .bool | .str | .list _ _ => rfl

/-- Numbers are of their kind; strings and lists are no longer than memory bears. -/
def bd1 : (r : RT) → El r → Prop
  | .list _ a, xs => xs.length ≤ maxLen ∧ ∀ y ∈ xs, bd1 a y
  | .pair a b, x => bd1 a x.1 ∧ bd1 b x.2
  | .int k, n => (Lit.int k n).wf = true
  | .str, s => s.size ≤ maxLen
  | .bool, _ => True

/-- What one cell may be: an element of a code. -/
def KV (E : Ctx) (r : RT) (v : Value) : Prop := ∃ x : El r, SV E r x [v] ∧ bd1 r x

theorem SV_of_leaves {E : Ctx} : ∀ (a : RT) {cs : List Value}, F2 (KV E) (leaves a) cs → ∃ x : El a, SV E a x cs ∧ bd1 a x
  | .pair a b, cs, h => by
    obtain ⟨m1, m2, rfl, h1, h2⟩ := F2.split h
    obtain ⟨x, hx, bx⟩ := SV_of_leaves a h1
    obtain ⟨y, hy, by'⟩ := SV_of_leaves b h2
    exact ⟨(x, y), ⟨m1, m2, rfl, hx, hy⟩, bx, by'⟩
  | .int k, cs, h => by
    cases h with
    | cons h ht => cases ht with
      | nil => exact h
  | .bool, cs, h => by
    cases h with
    | cons h ht => cases ht with
      | nil => exact h
  | .str, cs, h => by
    cases h with
    | cons h ht => cases ht with
      | nil => exact h
  | .list e a, cs, h => by
    cases h with
    | cons h ht => cases ht with
      | nil => exact h

def kindsL (f : TypeId → Option (List RT)) (P : Program) : List Field → Nat → Option (List RT)
  | [], _ => some []
  | g :: r, off => if g.offset = off then match f g.type with
      | some l => if P.cellsOf g.type = l.length then match kindsL f P r (off + l.length) with
          | some m => some (l ++ m)
          | none => none
        else none
      | none => none
    else none

def kinds (P : Program) (rt : TypeId → Option RT) : Nat → TypeId → Option (List RT)
  | 0, _ => none
  | n + 1, t => match P.underlying t with
    | some .bool => some [.bool]
    | some (.int k) => some [.int k]
    | some .string => some [.str]
    | some (.slice e) => match rt e with
      | some a => match kinds P rt n e with
        | some l => if l = leaves a ∧ P.cellsOf e = a.sz then some [.list e a] else none
        | none => none
      | none => none
    | some (.struct fs) => match kindsL (kinds P rt n) P fs.toList 0 with
      | some l => if P.cellsOf t = l.length then some l else none
      | none => none
    | _ => none

theorem mapM_F2 {α β : Type} {f : α → Option β} : ∀ {l : List α} {r : List β}, l.mapM f = some r → F2 (fun a b => f a = some b) l r
  | [], r, h => by
    simp at h
    subst h
    exact .nil
  | a :: l, r, h => by
    rw [List.mapM_cons] at h
    obtain ⟨b, hb, h⟩ := Option.bind_eq_some_iff.1 h
    obtain ⟨bs, hbs, h⟩ := Option.bind_eq_some_iff.1 h
    injection h with h
    subst h
    exact .cons hb (mapM_F2 hbs)

theorem F2.getr {α β : Type} {R : α → β → Prop} {l : List α} {m : List β} (h : F2 R l m) {i : Nat} {b : β} (hb : m[i]? = some b) : ∃ a, l[i]? = some a ∧ R a b := h.flip.get hb

theorem cells_get {w : World} {base n : Nat} {ad : Addr} {c : List Value} (h : w.cells? base ad n = some c) : c.length = n ∧ ∀ (i : Nat) (u : Value), c[i]? = some u → w.cell? (ad.add i) = some u := by
  unfold World.cells? at h
  split at h
  · have hf := mapM_F2 h
    refine ⟨by simpa using hf.length.symm, fun i u hu => ?_⟩
    obtain ⟨j, hj, hr⟩ := hf.getr hu
    have hlt : i < n := by
      have := (List.getElem?_eq_some_iff.1 hj).1
      simpa using this
    rw [List.getElem?_range hlt] at hj
    injection hj with hj
    subst hj
    exact hr
  · cases h

theorem cell_block {w : World} {a : Addr} {u : Value} (h : w.cell? a = some u) : a.block < w.heap.size := by
  rcases Nat.lt_or_ge a.block w.heap.size with h1 | h1
  · exact h1
  · exfalso
    have hn : w.heap[a.block]? = none := by simp; omega
    unfold World.cell? at h
    rw [hn] at h
    simp at h

theorem choose_list {α : Type} {n : Nat} {Q : Nat → α → Prop} : (∀ i, i < n → ∃ x, Q i x) → ∃ xs : List α, xs.length = n ∧ ∀ i x, xs[i]? = some x → Q i x := by
  induction n with
  | zero => intro _; exact ⟨[], rfl, fun i x h => by simp at h⟩
  | succ n ih =>
    intro h
    obtain ⟨xs, hl, hx⟩ := ih fun i hi => h i (by omega)
    obtain ⟨y, hy⟩ := h n (by omega)
    refine ⟨xs ++ [y], by simp [hl], fun i x hi => ?_⟩
    rcases Nat.lt_or_ge i n with h1 | h1
    · rw [List.getElem?_append_left (by omega)] at hi
      exact hx i x hi
    · rw [List.getElem?_append_right (by omega)] at hi
      have : i - xs.length = 0 := by
        have := (List.getElem?_eq_some_iff.1 hi).1
        simp at this
        omega
      rw [this] at hi
      simp at hi
      subst hi
      have : i = n := by omega
      subst this
      exact hy

section
variable {H : Type} {enc : TypeId × Value → H} {P : Program} {w : World} {spare : Nat → Bool} {held : Bool} {rt : TypeId → Option RT} {E : Ctx}

theorem fields_kinds {g : TypeId → List Value → Option (DataW H × List MemPlace)} {f : TypeId → Option (List RT)} (hg : ∀ t l cs x, f t = some l → g t cs = some x → F2 (KV E) l cs) {cs : List Value} :
    ∀ {fs : List Field} {off : Nat} {l : List RT} {xs : List (DataW H × List MemPlace)}, kindsL f P fs off = some l → fs.mapM (fun q => g q.type ((cs.drop q.offset).take (P.cellsOf q.type))) = some xs → F2 (KV E) l ((cs.drop off).take l.length)
  | [], off, l, xs, hk, _ => by
    injection hk with hk
    subst hk
    simp
    exact .nil
  | q :: fs, off, l, xs, hk, hm => by
    unfold kindsL at hk
    split at hk
    · rename_i ho
      split at hk
      · rename_i m hm'
        split at hk
        · rename_i hc
          split at hk
          · rename_i r hr
            injection hk with hk
            subst hk
            rw [List.mapM_cons] at hm
            obtain ⟨b, hb, hm⟩ := Option.bind_eq_some_iff.1 hm
            obtain ⟨bs, hbs, _⟩ := Option.bind_eq_some_iff.1 hm
            have h1 := hg _ _ _ _ hm' hb
            have h2 := fields_kinds hg (cs := cs) hr hbs
            rw [ho, hc] at h1
            have e : (cs.drop off).take (m ++ r).length = (cs.drop off).take m.length ++ (cs.drop (off + m.length)).take r.length := by
              rw [List.length_append, List.take_add, List.drop_drop]
            rw [e]
            exact h1.append h2
          · cases hk
        · cases hk
      · cases hk
    · cases hk

theorem trod_kinds (hE0 : E.w0 = w) (hS : ∀ k, k < w.heap.size → E.S k) : ∀ (n : Nat) {t : TypeId} {l : List RT} (_ : kinds P rt n t = some l) {fuel : Nat} {cs : List Value} {x : DataW H × List MemPlace}, DataW.trod enc P w 0 spare held fuel t cs = some x → F2 (KV E) l cs
  | 0, _, _, hk, _, _, _, _ => by cases hk
  | n + 1, t, l, hk, 0, cs, x, h => by simp [DataW.trod] at h
  | n + 1, t, l, hk, fuel + 1, cs, x, h => by
    unfold kinds at hk
    split at hk
    · rename_i hU
      injection hk with hk
      subst hk
      rcases cs with _ | ⟨v, _ | ⟨v2, r⟩⟩
      · simp [DataW.trod, hU] at h
      · cases v <;> simp [DataW.trod, hU] at h
        exact .single ⟨_, rfl, trivial⟩
      · simp [DataW.trod, hU] at h
    · rename_i k hU
      injection hk with hk
      subst hk
      rcases cs with _ | ⟨v, _ | ⟨v2, r⟩⟩
      · simp [DataW.trod, hU] at h
      · cases v <;> simp [DataW.trod, hU] at h
        obtain ⟨⟨rfl, hwf⟩, _⟩ := h
        exact .single ⟨_, rfl, hwf⟩
      · simp [DataW.trod, hU] at h
    · rename_i hU
      injection hk with hk
      subst hk
      rcases cs with _ | ⟨v, _ | ⟨v2, r⟩⟩
      · simp [DataW.trod, hU] at h
      · cases v <;> simp [DataW.trod, hU] at h
        exact .single ⟨_, rfl, h.1⟩
      · simp [DataW.trod, hU] at h
    · rename_i e hU
      split at hk
      · rename_i a ha
        split at hk
        · rename_i l' hl'
          split at hk
          · rename_i hc
            obtain ⟨rfl, hc⟩ := hc
            injection hk with hk
            subst hk
            have hz : a.sz ≠ 0 := by
              have : ∀ t : RT, 0 < t.sz := by
                intro t
                induction t with
                | pair a b iha _ => simp [RT.sz]; omega
                | _ => simp [RT.sz]
              have := this a
              omega
            rcases cs with _ | ⟨v, _ | ⟨v2, r⟩⟩
            · simp [DataW.trod, hU] at h
            · cases v with
              | slice A len cap =>
                cases A with
                | none =>
                  cases len <;> cases cap <;> simp [DataW.trod, hU] at h
                  exact .single ⟨[], ⟨none, 0, rfl, Nat.le_refl _, by simp, fun hp => by simp at hp⟩, by simp [bd1]⟩
                | some ad =>
                  simp only [DataW.trod, hU] at h
                  split at h
                  · rename_i hb
                    obtain ⟨elems, hel, _⟩ := Option.bind_eq_some_iff.1 h
                    have hf := mapM_F2 hel
                    have hq : ∀ i, i < len → ∃ y : El a, ∃ c : List Value, c.length = a.sz ∧ (SV E a y c ∧ bd1 a y) ∧ ∀ (j : Nat) (u : Value), c[j]? = some u → w.cell? (ad.add (i * a.sz + j)) = some u := by
                      intro i hi
                      obtain ⟨b, _, hr⟩ := hf.get (i := i) (a := i) (List.getElem?_range hi)
                      obtain ⟨c, hc1, hc2⟩ := Option.bind_eq_some_iff.1 hr
                      obtain ⟨h1, h2⟩ := cells_get hc1
                      obtain ⟨y, hy⟩ := SV_of_leaves a (trod_kinds hE0 hS n hl' hc2)
                      refine ⟨y, c, by rw [h1, hc], hy, fun j u hj => ?_⟩
                      have := h2 j u hj
                      rwa [add_add, hc] at this
                    obtain ⟨xs, hxl, hxs⟩ := choose_list hq
                    refine .single ⟨xs, ⟨some ad, cap, by rw [hxl], by omega, by omega, fun hp => ⟨ad, rfl, ?_, fun j y hj => ?_⟩⟩, by omega, fun y hy => ?_⟩
                    · obtain ⟨_, c, hcl, _, hcell⟩ := hq 0 (by omega)
                      have h0 : c[0]? = some c[0] := List.getElem?_eq_getElem (by omega)
                      have := cell_block (hcell 0 _ h0)
                      rw [add_block] at this
                      exact hS _ this
                    · obtain ⟨c, h1, h2, h3⟩ := hxs j y hj
                      exact ⟨c, h1, h2.1, fun i u hu => by rw [hE0]; exact h3 i u hu⟩
                    · obtain ⟨j, hj, rfl⟩ := List.getElem_of_mem hy
                      obtain ⟨_, _, h2, _⟩ := hxs j _ (List.getElem?_eq_getElem hj)
                      exact h2.2
                  · cases h
              | _ => simp [DataW.trod, hU] at h
            · simp [DataW.trod, hU] at h
          · cases hk
        · cases hk
      · cases hk
    · rename_i fs hU
      split at hk
      · rename_i l' hl'
        split at hk
        · rename_i hc
          injection hk with hk
          subst hk
          simp only [DataW.trod, hU] at h
          split at h
          · rename_i hlen
            obtain ⟨xs, hxs, _⟩ := Option.map_eq_some_iff.1 h
            have := fields_kinds (E := E) (P := P) (g := DataW.trod enc P w 0 spare held fuel) (f := kinds P rt n) (fun t l cs x h1 h2 => trod_kinds hE0 hS n h1 h2) hl' hxs
            rw [List.drop_zero, List.take_of_length_le (by omega)] at this
            exact this
          · cases h
        · cases hk
      · cases hk
    · cases hk

/-! ### Arguments -/
def slOf : RT → SL
  | .int k => .int k
  | .bool => .bool
  | .str => .str
  | .list _ a => .ro a
  | .pair _ _ => .void
def haOf (agg : Bool) (l : List RT) : HA := .c (match agg with | true => .agg (l.map slOf) | false => .leaf (match l with | [r] => slOf r | _ => .void))

/-- What is told of one argument. -/
def ArgIs (E : Ctx) (p : Bool × List RT) (v : Value) : Prop :=
  p.2.all leafB = true ∧ match p.1 with
  | true => ∃ cs : Array Value, v = .agg cs ∧ F2 (KV E) p.2 cs.toList
  | false => ∃ r, p.2 = [r] ∧ KV E r v

def bdL {R : Type} : (s : SL) → DL s R → Prop
  | .ro t, x => x.1.length ≤ maxLen ∧ ∀ y ∈ x.1, bd1 t y
  | .int k, x => (Lit.int k x.1).wf = true
  | .str, x => x.1.size ≤ maxLen
  | _, _ => True
def bdLs {R : Type} : (s : List SL) → DLs s R → Prop
  | [], _ => True
  | s :: r, x => bdL s x ∧ bdLs r (pkL s x).2
def bdV {R : Type} : (s : HV) → DV s R → Prop
  | .leaf s, x => bdL s x
  | .agg l, x => bdLs l x
def bdA {R : Type} : (s : HA) → DA s R → Prop
  | .c h, x => bdV h x
  | .tup _, _ => True
def bdAs {R : Type} : (s : List HA) → DAs s R → Prop
  | [], _ => True
  | s :: r, x => bdA s x ∧ bdAs r (pkA s x).2

theorem leaf_data {sg : Nat → Option Sig} {ι : Im} {r : RT} (hl : leafB r = true) {v : Value} (h : KV E r v) {R : Type} (z : R) : ∃ y : DL (slOf r) R, LRel E sg ι (pkL (slOf r) y).1 v ∧ (pkL (slOf r) y).2 = z ∧ bdL (slOf r) y := by
  obtain ⟨x, hx, hb⟩ := h
  cases r with
  | int k =>
    simp only [SV] at hx
    injection hx with hx
    exact ⟨(x, z), hx, rfl, hb⟩
  | bool =>
    simp only [SV] at hx
    injection hx with hx
    exact ⟨(x, z), hx, rfl, trivial⟩
  | str =>
    simp only [SV] at hx
    injection hx with hx
    exact ⟨(x, z), hx, rfl, hb⟩
  | pair a b => cases hl
  | list e a =>
    obtain ⟨A, n, hx, h1, h2⟩ := hx
    injection hx with hx
    exact ⟨(x, z), ⟨A, n, hx, h1, h2⟩, rfl, hb⟩

theorem leafs_data {sg : Nat → Option Sig} {ι : Im} : ∀ {l : List RT} {cs : List Value}, l.all leafB = true → F2 (KV E) l cs → ∀ {R : Type} (z : R), ∃ y : DLs (l.map slOf) R, F2 (LRel E sg ι) (pkLs (l.map slOf) y).1 cs ∧ (pkLs (l.map slOf) y).2 = z ∧ bdLs (l.map slOf) y
  | [], _, _, h, R, z => by
    cases h
    exact ⟨z, .nil, rfl, trivial⟩
  | r :: l, _, hl, h, R, z => by
    cases h with
    | cons h ht =>
      simp only [List.all_cons, Bool.and_eq_true] at hl
      obtain ⟨y, hy, ez, hb⟩ := leafs_data hl.2 ht z
      obtain ⟨q, hq, eq, hb1⟩ := leaf_data (sg := sg) (ι := ι) hl.1 h y
      refine ⟨q, ?_, ?_, hb1, by rw [eq]; exact hb⟩
      · show F2 _ ((pkL (slOf r) q).1 :: (pkLs (l.map slOf) (pkL (slOf r) q).2).1) _
        rw [eq]
        exact .cons hq hy
      · show (pkLs (l.map slOf) (pkL (slOf r) q).2).2 = z
        rw [eq]
        exact ez

theorem arg_data {sg : Nat → Option Sig} {ι : Im} {p : Bool × List RT} {v : Value} (h : ArgIs E p v) {R : Type} (z : R) : ∃ y : DA (haOf p.1 p.2) R, ARel E sg ι (pkA (haOf p.1 p.2) y).1 v ∧ (pkA (haOf p.1 p.2) y).2 = z ∧ bdA (haOf p.1 p.2) y := by
  obtain ⟨b, l⟩ := p
  obtain ⟨hl, h⟩ := h
  cases b with
  | true =>
    obtain ⟨cs, rfl, h⟩ := h
    obtain ⟨y, hy, ez, hb⟩ := leafs_data (sg := sg) (ι := ι) hl h z
    exact ⟨y, ⟨cs, rfl, hy⟩, ez, hb⟩
  | false =>
    obtain ⟨r, hr, h⟩ := h
    have hr : l = [r] := hr
    subst hr
    simp only [List.all_cons, Bool.and_eq_true] at hl
    obtain ⟨y, hy, ez, hb⟩ := leaf_data (sg := sg) (ι := ι) hl.1 h z
    exact ⟨y, hy, ez, hb⟩

theorem args_data {sg : Nat → Option Sig} {ι : Im} : ∀ {ps : List (Bool × List RT)} {vs : List Value}, F2 (ArgIs E) ps vs → ∃ y : DAs (ps.map fun p => haOf p.1 p.2) Unit, F2 (ARel E sg ι) (pkAs (ps.map fun p => haOf p.1 p.2) y).1 vs ∧ bdAs (ps.map fun p => haOf p.1 p.2) y
  | [], _, h => by
    cases h
    exact ⟨(), .nil, trivial⟩
  | p :: ps, _, h => by
    cases h with
    | cons h ht =>
      obtain ⟨y, hy, hb⟩ := args_data (sg := sg) (ι := ι) ht
      obtain ⟨q, hq, eq, hb1⟩ := arg_data (sg := sg) (ι := ι) h y
      refine ⟨q, ?_, hb1, by rw [eq]; exact hb⟩
      show F2 _ ((pkA (haOf p.1 p.2) q).1 :: (pkAs (ps.map fun p => haOf p.1 p.2) (pkA (haOf p.1 p.2) q).2).1) _
      rw [eq]
      exact .cons hq hy
end

def leafT (P : Program) (t : TypeId) : Bool :=
  match P.underlying t with
  | some .bool | some (.int _) | some .string | some (.slice _) => true
  | _ => false
def structT (P : Program) (t : TypeId) : Bool :=
  match P.underlying t with
  | some (.struct _) => true
  | _ => false

section
variable {H : Type} {enc : TypeId × Value → H} {P : Program} {w : World} {spare : Nat → Bool} {held : Bool} {rt : TypeId → Option RT}

theorem arg_agg {t : TypeId} {v : Value} {d : DataW H} {p : List MemPlace} {base n : Nat} {l : List RT} (hU : structT P t = true) (hk : kinds P rt n t = some l) (hl : l.all leafB = true) (hok : Value.okWide P w .any base t v) (h : DataW.Trod enc P w 0 spare held t v d p) :
    ArgIs ⟨w, fun _ => False, fun k => k < w.heap.size⟩ (true, l) v := by
  refine ⟨hl, ?_⟩
  obtain ⟨fuel, h⟩ := h
  unfold structT at hU
  split at hU
  · rename_i fs hfs
    unfold Value.okWide at hok
    rw [hfs] at hok
    obtain ⟨cs, rfl, _⟩ := hok
    exact ⟨cs, rfl, trod_kinds (E := ⟨w, fun _ => False, fun k => k < w.heap.size⟩) rfl (fun _ h => h) n hk h⟩
  · cases hU

theorem arg_leaf {t : TypeId} {v : Value} {d : DataW H} {p : List MemPlace} {base n : Nat} {r : RT} (hU : leafT P t = true) (hk : kinds P rt n t = some [r]) (hl : leafB r = true) (hok : Value.okWide P w .any base t v) (h : DataW.Trod enc P w 0 spare held t v d p) :
    ArgIs ⟨w, fun _ => False, fun k => k < w.heap.size⟩ (false, [r]) v := by
  refine ⟨by simp [hl], r, rfl, ?_⟩
  obtain ⟨fuel, h⟩ := h
  have hv : v.cells.toList = [v] := by
    cases v with
    | agg cs =>
      exfalso
      unfold leafT at hU
      unfold Value.okWide Cell.okWide Cell.ok at hok
      split at hU <;> simp_all
    | _ => rfl
  have := trod_kinds (E := ⟨w, fun _ => False, fun k => k < w.heap.size⟩) rfl (fun _ h => h) n hk h
  rw [hv] at this
  cases this with
  | cons h _ => exact h
end

def rootSh (ps : List (Bool × List RT)) : Sh := ⟨ps.map fun p => haOf p.1 p.2, []⟩
def boolSh : Sh := ⟨[.c (.leaf .bool)], []⟩

/-- A law whose plain function says true of all data returns true, and writes nothing that it did not make. -/
theorem law_run {P : Program} {f : FuncId} {fn : Func} {w : World} {ps : List (Bool × List RT)} {vs : List Value} (hm : P.follows .mixedOrders = true) (hfn : P.funcs[f]? = some fn) (hname : (fn.name == "runtime.NumGoroutine") = false)
    {T : Nat → Env} (hT : ∀ k, EnvOk P (T k)) (hnp : ∀ k, (T k).np ≤ 64) {G : Nat → Dt (rootSh ps) → Option (Dt boolSh)} (hG : ∀ k, Comes1 (T k) fn (rootSh ps) boolSh (G k))
    (hall : ∀ x, bdAs (ps.map fun p => haOf p.1 p.2) x → ∃ k, G k x = some (true, ()))
    (hv : F2 (ArgIs ⟨w, fun _ => False, fun k => k < w.heap.size⟩) ps vs) :
    Calls P f vs.toArray w fun e w' => e = .returned (.bool true) ∧ Below w.heap.size w w' := by
  obtain ⟨x, hx, hbd⟩ := args_data (sg := sgOf (lku [])) (ι := ⟨fun _ => undef, fun _ _ => undef⟩) hv
  obtain ⟨k, hk⟩ := hall x hbd
  have hgood : Good P f (pk (rootSh ps) x).1 [] (.lf (.bool true)) [] := by
    refine fn_sound (hT k) hm (hnp k) hfn hname rfl ((hG k x).trans hk) ?_
    intro v' ob' h
    have := un_pk h
    have h1 : ([AV.lf (.bool true)], ([] : Objs)) = ([v'], ob') := this
    injection h1 with h1 h2
    injection h1 with h1
    exact ⟨h1.symm, h2.symm⟩
  have hinv : Inv ⟨w, fun _ => False, fun k => k < w.heap.size⟩ (lku []) ⟨fun _ => undef, fun _ _ => undef⟩ w :=
    ⟨fun o a h => (nomatch (show (none : Option AO) = some a from h)), fun o o' a a' h => (nomatch (show (none : Option AO) = some a from h)), fun o a k h => (nomatch (show (none : Option AO) = some a from h)), Nat.le_refl _, rfl, rfl, rfl, fun _ _ _ => rfl, fun k hk => ⟨hk, fun h => h⟩⟩
  refine (hgood.2 _ _ w vs hinv hx).mono ?_
  rintro e w' ⟨v, ι', rfl, h1, h2, _⟩
  have h2 : v = .bool true := h2
  subst h2
  exact ⟨rfl, h1.os, h1.tape, h1.out, h1.sz, fun k hk => h1.fr k hk (fun h => h)⟩
end Go.Proofs.Ytiooamodldgalaa.Abs
