/-
One operation that is no call, part six: what writes memory, or makes it.
-/
import Derived.Test.YtiooamodldgalaaAbs9
namespace Go.Proofs.Ytiooamodldgalaa.Abs
open Go

section
variable {E : Ctx} {lk lk0 : Nat → Option AO} {ι : Im} {w w' : World} {P : Program} {T : Env} {sg : Nat → Option Sig}

/-! ### The cells of a slice's elements -/
theorem fm_inv {α β : Type} {f : α → List β} {n : Nat} (hf : ∀ x, (f x).length = n) {xs : List α} {q : Nat} {u : β} (h : (xs.flatMap f)[q]? = some u) :
    ∃ i x k, xs[i]? = some x ∧ k < n ∧ q = i * n + k ∧ (f x)[k]? = some u := by
  have hq : q < xs.length * n := by
    have := (List.getElem?_eq_some_iff.1 h).1
    rwa [fm_len hf] at this
  have hn : 0 < n := by
    rcases Nat.eq_zero_or_pos n with h0 | h0
    · subst h0; simp at hq
    · exact h0
  have hi : q / n < xs.length := by
    rw [Nat.div_lt_iff_lt_mul hn]
    exact hq
  have hk : q % n < n := Nat.mod_lt _ hn
  have hqe : q = q / n * n + q % n := by rw [Nat.mul_comm]; exact (Nat.div_add_mod q n).symm
  refine ⟨q / n, xs[q / n], q % n, List.getElem?_eq_getElem hi, hk, hqe, ?_⟩
  rw [hqe, fm_get hf (List.getElem?_eq_getElem hi) hk] at h
  exact h

theorem SV_vals : ∀ (t : RT) {x : El t} {cs : List Value}, t.flat = true → SV E t x cs → cs = vals t x
  | .int _, _, _, _, h => h
  | .bool, _, _, _, h => h
  | .str, _, _, _, h => h
  | .pair a b, x, cs, hf, h => by
    simp [RT.flat] at hf
    obtain ⟨c, d, rfl, h1, h2⟩ := h
    rw [SV_vals a hf.1 h1, SV_vals b hf.2 h2]
    rfl
  | .list _ _, _, _, hf, _ => by simp [RT.flat] at hf

/-- A slice value whose first cells are these. -/
def Holds (w : World) (v : Value) (n : Nat) (cs : List Value) : Prop :=
  ∃ A c, v = .slice A n c ∧ (0 < cs.length → ∃ ad, A = some ad ∧ ∀ (j : Nat) (u : Value), cs[j]? = some u → w.cell? (ad.add j) = some u)

theorem owns_holds {base n : Nat} {e : TypeId} {size : Nat} {v : Value} {cs : List Value} (h : w.ownsRow base e size v n cs) : Holds w v n cs := by
  rcases h.2 with ⟨rfl, rfl⟩ | ⟨g, cap, cur, rfl, _⟩
  · exact ⟨none, 0, rfl, fun hp => by have := h.1; simp at this; subst this; simp at hp⟩
  · exact ⟨_, cap, rfl, fun _ => ⟨_, rfl, fun j u hj => by rw [add_lit, Nat.zero_add]; exact owns_cell h hj⟩⟩

theorem slc_holds (h : Inv E lk ι w) (hsub : ∀ o a, lk0 o = some a → lk o = some a) {x : LV} {v : Value} {t : RT} {xs : List (El t)} (hs : slc lk0 x = some ⟨t, xs⟩) (hf : t.flat = true) (hv : LRel E (sgOf lk) ι x v) : Holds w v xs.length (flatV t xs) := by
  cases x <;> simp only [slc] at hs <;> try (cases hs; done)
  case own o =>
    split at hs
    · rename_i e t' xs' ho
      have ho' := hsub _ _ ho
      injection hs with hs
      injection hs with e1 e2
      subst e1
      have e2 := eq_of_heq e2
      subst e2
      have := hv t' xs'.length (lens t' xs') (by simp [sgOf, ho', sig])
      subst this
      have hob : RowRel w ι o e t' xs' := h.ob o _ ho'
      have : w.ownsRow 0 e t'.sz (ι.v o) xs'.length (flatV t' xs') := by
        cases t' <;> first | exact hob.2 | simp [RT.flat] at hf
      exact owns_holds this
    · cases hs
  case ro t' xs' =>
    injection hs with hs
    injection hs with e1 e2
    subst e1
    have e2 := eq_of_heq e2
    subst e2
    obtain ⟨A, m, rfl, hm, _, hel⟩ := hv
    refine ⟨A, m, rfl, fun hp => ?_⟩
    have hpos : 0 < xs'.length := by
      cases xs' with
      | nil => simp [flatV] at hp
      | cons => simp
    obtain ⟨ad, rfl, hS, hc⟩ := hel hpos
    refine ⟨ad, rfl, fun j u hj => ?_⟩
    obtain ⟨i, x, k, hx, hk, rfl, hu⟩ := fm_inv (fun x => vals_len t' x hf) hj
    obtain ⟨c, _, hsv, hcell⟩ := hc i x hx
    have := SV_vals t' hf hsv
    subst this
    rw [← hcell k u hu]
    exact World.cell?_of_block (by rw [add_block]; exact h.agree _ hS)
  case view o lo hi =>
    split at hs
    · rename_i e t' xs' ho
      have ho' := hsub _ _ ho
      injection hs with hs
      injection hs with e1 e2
      subst e1
      have e2 := eq_of_heq e2
      subst e2
      obtain ⟨h1, h2, A, m, c, hA, rfl⟩ := hv t' xs'.length (lens t' xs') (by simp [sgOf, ho', sig])
      have hob : RowRel w ι o e t' xs' := h.ob o _ ho'
      have hrow : w.ownsRow 0 e t'.sz (ι.v o) xs'.length (flatV t' xs') := by
        cases t' <;> first | exact hob.2 | simp [RT.flat] at hf
      have hl : ((xs'.take hi).drop lo).length = hi - lo := by simp; omega
      refine ⟨if c = lo then A else A.map (·.add (lo * t'.sz)), c - lo, by rw [hl], fun hp => ?_⟩
      have hlt : lo < hi := by
        rcases Nat.lt_or_ge lo hi with h' | h'
        · exact h'
        · have : ((xs'.take hi).drop lo) = [] := List.eq_nil_of_length_eq_zero (by omega)
          rw [this] at hp
          simp [flatV] at hp
      rw [hA] at hrow
      rcases hrow.2 with ⟨he, _⟩ | ⟨g, cap, cur, he, _, hg, hnc, _⟩
      · injection he with _ he2 _; omega
      · injection he with he1 he2 he3
        subst he1; subst he3
        rw [if_neg (by omega)]
        refine ⟨_, rfl, fun j u hj => ?_⟩
        show w.cell? ((Addr.add ⟨g, 0, none⟩ (lo * t'.sz)).add j) = some u
        rw [add_lit, add_lit, Nat.zero_add]
        refine owns_cell hrow ?_
        have hd : flatV t' ((xs'.take hi).drop lo) = ((flatV t' xs').take (hi * t'.sz)).drop (lo * t'.sz) := by
          unfold flatV
          rw [fm_take (fun x => vals_len t' x hf), fm_drop (fun x => vals_len t' x hf)]
        rw [hd, List.getElem?_drop, List.getElem?_take] at hj
        split at hj
        · exact hj
        · cases hj
    · cases hs
  case inn o i =>
    split at hs
    · rename_i e t' xs' ho
      have ho' := hsub _ _ ho
      cases t' <;> simp only [inner] at hs <;> try (cases hs; done)
      rename_i e2 a
      injection hs with hs
      injection hs with e1 e2'
      subst e1
      have e2' := eq_of_heq e2'
      subst e2'
      obtain ⟨h1, rfl⟩ := hv (.list e2 a) xs'.length (lens _ xs') (by simp [sgOf, ho', sig])
      have hob : RowRel w ι o e (.list e2 a) xs' := h.ob o _ ho'
      exact owns_holds (hob.2.2.1 i _ (getD_get h1 ([] : List (El a))))
    · cases hs

theorem castL_some {t u : RT} {xs : List (El u)} {ys : List (El t)} (h : castL t ⟨u, xs⟩ = some ys) : ∃ e : u = t, ys = e ▸ xs := by
  by_cases e : u = t
  · simp only [castL, dif_pos e] at h
    injection h with h
    exact ⟨e, h.symm⟩
  · simp only [castL, dif_neg e] at h
    cases h

theorem slcOf_holds (h : Inv E lk ι w) (hsub : ∀ o a, lk0 o = some a → lk o = some a) {x : LV} {v : Value} {t : RT} {xs : List (El t)} (hs : slcOf lk0 t x = some xs) (hf : t.flat = true) (hv : LRel E (sgOf lk) ι x v) : Holds w v xs.length (flatV t xs) := by
  have key : ∀ p, slc lk0 x = some p → castL t p = some xs → Holds w v xs.length (flatV t xs) := by
    intro ⟨u, ys⟩ hp hc
    obtain ⟨e, rfl⟩ := castL_some hc
    subst e
    exact slc_holds h hsub hp hf hv
  unfold slcOf at hs
  split at hs
  · have hv : v = _ := hv
    subst hv
    injection hs with hs
    subst hs
    exact ⟨none, 0, rfl, fun hp => by simp [flatV] at hp⟩
  · split at hs
    · rename_i p hp
      exact key p hp hs
    · cases hs

/-! ### append -/
theorem run_append_none' {t ty e : TypeId} {i : TypeInfo} {size : Nat} (ht : P.underlying t = some (.slice e)) (hi : P.info? e = some i) {v : Value} {n : Nat} {xs : List Value} (hown : w.ownsRow 0 e size v n xs) (c : Nat) :
    (Builtin.append_ #[t, t] ty #[v, .slice none 0 c]).run P w = .ok v w := by
  have := run_append_owned_none (P := P) w 0 t ty e i size ht hi v n xs hown
  rw [← this]
  rfl

theorem run_append_at {t ty e : TypeId} {i : TypeInfo} {z : Value} (ht : P.underlying t = some (.slice e)) (hi : P.info? e = some i) (hz : i.zero = some z) (hzs : z.cells.size = i.size) (hsz : 0 < i.size)
    {v : Value} {n : Nat} {xs : List Value} (hown : w.ownsRow 0 e i.size v n xs) {vx : Value} {m : Nat} {news : List Value} (hx : Holds w vx m news) (hl : news.length = m * i.size) (h1 : ∀ u ∈ news, u.oneCell' = true)
    (h63 : n + m ≤ maxLen) (hbytes : (n + m) * i.bytes ≤ 140737488355328) :
    ∃ v' w', (Builtin.append_ #[t, t] ty #[v, vx]).run P w = .ok v' w' ∧ w'.ownsRow 0 e i.size v' (n + m) (xs ++ news) ∧ w.grownBy w' v.ownBlock ∧ ∀ k, v'.ownBlock = some k → v.ownBlock = some k ∨ w.heap.size ≤ k := by
  obtain ⟨A, c, rfl, hA⟩ := hx
  by_cases hm : m = 0
  · subst hm
    have hn : news = [] := List.eq_nil_of_length_eq_zero (by simpa using hl)
    subst hn
    cases A with
    | none =>
      refine ⟨v, w, run_append_none' ht hi hown c, by simpa using hown, ⟨rfl, rfl, rfl, Nat.le_refl _, fun _ _ _ => rfl⟩, fun k hk => .inl hk⟩
    | some a =>
      rcases hown.2 with ⟨rfl, rfl⟩ | ⟨g, cap, cur, rfl, _, hg, hnc, _⟩
      · refine ⟨.slice none 0 0, w, ?_, by simpa using hown, ⟨rfl, rfl, rfl, Nat.le_refl _, fun _ _ _ => rfl⟩, fun k hk => .inl hk⟩
        simp [Builtin.append_, run_underlying ht, sizeOf, typeInfo, hi, Builtin.lenOf, Builtin.firstCells, loadCells, loadCellsFrom]
      · obtain ⟨w', hr, ho, hgr⟩ := run_append_fits (P := P) w 0 t ty e i i.size ht hi rfl g n cap xs hown a 0 c [] (by simp) (by simp) (by simp) (by omega)
        exact ⟨_, w', hr, ho, hgr, fun k hk => .inl hk⟩
  · have hp : 0 < news.length := by rw [hl]; exact Nat.mul_pos (by omega) hsz
    obtain ⟨a, rfl, hnews⟩ := hA hp
    by_cases hroom : ∃ g cap, v = .slice (some ⟨g, 0, none⟩) n cap ∧ n + m ≤ cap
    · obtain ⟨g, cap, rfl, hroom⟩ := hroom
      obtain ⟨w', hr, ho, hgr⟩ := run_append_fits (P := P) w 0 t ty e i i.size ht hi rfl g n cap xs hown a m c news hl hnews h1 hroom
      exact ⟨_, w', hr, ho, hgr, fun k hk => .inl hk⟩
    · -- a new block: what is appended to is put into a world of its own number
      obtain ⟨v', w', hr, ho, hgr, hnil⟩ := run_append_own (P := P) w 0 t ty e i z i.size i.bytes ht hi hz rfl rfl hzs hsz v n xs hown a m c news hl hnews h1 h63 hbytes (Nat.zero_le _)
      refine ⟨v', w', hr, ho, hgr, ?_⟩
      rcases hown.2 with ⟨rfl, rfl⟩ | ⟨g, cap, cur, rfl, _, hg, hnc, _⟩
      · have hr2 := run_append_nil (P := P) w t ty e i z ht hi hz a m c news hl hnews (by omega) (by simp only [maxLen] at h63; omega) (by have hb := hbytes; simp only [Nat.zero_add] at hb; omega)
        rw [hr2] at hr
        injection hr with hr _
        subst hr
        intro k hk
        simp [Value.ownBlock] at hk
        exact .inr (by omega)
      · have hroom' : ¬ n + m ≤ cap := fun h => hroom ⟨g, cap, rfl, h⟩
        have holds : ∀ j u, xs[j]? = some u → w.cell? ((⟨g, 0, none⟩ : Addr).add j) = some u := hown.cells (g := g) rfl
        have hr2 := run_append_grow (P := P) w t ty e i z ht hi hz ⟨g, 0, none⟩ n cap xs hown.1 holds a m c news hl hnews (by omega) (by simp only [maxLen] at h63; omega) (growslice_fits (by omega) hbytes)
        rw [hr2] at hr
        injection hr with hr _
        subst hr
        intro k hk
        simp [Value.ownBlock] at hk
        exact .inr (by omega)

/-! ### A new object that takes others' places -/
def taken (lk : Nat → Option AO) (n : Nat) (a : AO) (D : List Nat) (o : Nat) : Option AO := if o = n then some a else bif D.any (Nat.beq o) then none else lk o

theorem apl_take (v : AV) (n : Nat) (a : AO) (D : List Nat) (b : Bool) (lk : Nat → Option AO) : apl ⟨v, [], D, [(n, a)], b⟩ lk = taken lk n a D := by
  funext o
  simp only [apl, lku, taken]
  by_cases h : o = n
  · subst h; simp
  · have : Nat.beq n o = false := by
      cases hb : Nat.beq n o with
      | true => exact absurd (Nat.eq_of_beq_eq_true hb).symm h
      | false => rfl
    rw [this, if_neg h]
    simp only [cond_false]
    cases D.any (Nat.beq o) with
    | true => rfl
    | false => cases lk o <;> rfl

theorem any_mem {D : List Nat} {o : Nat} : D.any (Nat.beq o) = true ↔ o ∈ D := by
  simp only [List.any_eq_true]
  constructor
  · rintro ⟨x, hx, hb⟩
    exact Nat.eq_of_beq_eq_true hb ▸ hx
  · intro h
    exact ⟨o, h, Nat.beq_refl o⟩

theorem Fits.taken {n : Nat} {a : AO} {D : List Nat} {v : Value} {g : Nat → Value} {o : Nat} (h : o ≠ n) : Fits (sgOf lk) (sgOf (taken lk n a D)) ι (ι.put n v g) o := by
  by_cases hd : D.any (Nat.beq o) = true
  · exact .inl (by simp only [sgOf, Abs.taken, if_neg h, hd]; rfl)
  · refine .inr ⟨?_, (ι.put_ne v g h).1, (ι.put_ne v g h).2⟩
    simp only [sgOf, Abs.taken, if_neg h]
    simp only [Bool.not_eq_true] at hd
    rw [hd]
    rfl

theorem Inv.take (h : Inv E lk ι w) {n : Nat} (hn : lk n = none) (hfr : ∀ o a, lk o = some a → n ∉ a.ids) {a : AO} {D : List Nat} {v : Value} {g : Nat → Value}
    (ho : ORel E (sgOf (taken lk n a D)) (ι.put n v g) w' n a)
    (hfp : ∀ k, fp (ι.put n v g) n a k → k < w'.heap.size ∧ ((∃ o b, o ∈ D ∧ lk o = some b ∧ fp ι o b k) ∨ w.heap.size ≤ k))
    (hb : ∀ k, k < w.heap.size → (∀ o b, o ∈ D → lk o = some b → ¬ fp ι o b k) → w'.heap[k]? = w.heap[k]?) (hsz : w.heap.size ≤ w'.heap.size) (hos : w'.os = w.os) (htape : w'.tape = w.tape) (hout : w'.output = w.output) :
    Inv E (taken lk n a D) (ι.put n v g) w' := by
  refine h.turn (fun o => o = n ∨ o ∈ D) ?_ ?_ ?_ ?_ ?_ ?_ hsz hos htape hout
  · intro o ho
    have h1 : o ≠ n := fun e => ho (.inl e)
    have h2 : D.any (Nat.beq o) = false := by
      cases hb : D.any (Nat.beq o) with
      | true => exact absurd (any_mem.1 hb) (fun e => ho (.inr e))
      | false => rfl
    exact ⟨by simp only [Abs.taken, if_neg h1, h2]; rfl, (ι.put_ne v g h1).1, (ι.put_ne v g h1).2⟩
  · intro o b p _ hl hp
    exact Fits.taken fun e => hfr o b hl (e ▸ hp)
  · rintro o b (rfl | hd) hl
    · simp only [Abs.taken, if_true] at hl
      injection hl with hl
      subst hl
      exact ho
    · by_cases e : o = n
      · subst e
        simp only [Abs.taken, if_true] at hl
        injection hl with hl
        subst hl
        exact ho
      · simp only [Abs.taken, if_neg e, any_mem.2 hd] at hl
        cases hl
  · intro k hk hX
    refine hb k hk fun o b hd hl => hX o b (.inr hd) hl
  · intro o b k hx hl hk
    have e : o = n := by
      rcases hx with rfl | hd
      · rfl
      · by_cases e : o = n
        · exact e
        · simp only [Abs.taken, if_neg e, any_mem.2 hd] at hl
          cases hl
    subst e
    simp only [Abs.taken, if_true] at hl
    injection hl with hl
    subst hl
    obtain ⟨h1, h2⟩ := hfp k hk
    refine ⟨h1, ?_⟩
    rcases h2 with ⟨o', b', hd, hl', hf⟩ | h2
    · exact .inl ⟨o', b', .inr hd, hl', hf⟩
    · exact .inr h2
  · intro o o' b b' hx hx' hl hl' hne
    have key : ∀ {o b}, (o = n ∨ o ∈ D) → Abs.taken lk n a D o = some b → o = n := by
      intro o b hx hl
      rcases hx with rfl | hd
      · rfl
      · by_cases e : o = n
        · exact e
        · simp only [Abs.taken, if_neg e, any_mem.2 hd] at hl
          cases hl
    exact absurd ((key hx hl).trans (key hx' hl').symm) hne

theorem put_same (ι : Im) (n : Nat) (v : Value) (g : Nat → Value) : (ι.put n v g).v n = v ∧ (ι.put n v g).v2 n = g := ⟨upd_same _ _ _, upd_same _ _ _⟩

theorem rowRel_flat {o : Nat} {e : TypeId} {t : RT} {xs : List (El t)} (hf : t.flat = true) : RowRel w ι o e t xs ↔ w.ownsRow 0 e t.sz (ι.v o) xs.length (flatV t xs) := by
  cases t <;> first | (simp [RowRel, hf]; done) | (simp [RT.flat] at hf; done) | exact ⟨fun h => h.2, fun h => ⟨hf, h⟩⟩

theorem flat_isIn {t : RT} (hf : t.flat = true) : isIn t = false := by
  cases t <;> first | rfl | simp [RT.flat] at hf

theorem flatV_append (t : RT) (xs ys : List (El t)) : flatV t (xs ++ ys) = flatV t xs ++ flatV t ys := by simp [flatV]
theorem flatV_one (t : RT) (xs : List (El t)) : ∀ u ∈ flatV t xs, u.oneCell' = true := by
  intro u hu
  obtain ⟨x, _, hx⟩ := List.mem_flatMap.1 hu
  exact vals_one t x u hx
theorem flatV_len (t : RT) (xs : List (El t)) (hf : t.flat = true) : (flatV t xs).length = xs.length * t.sz := fm_len (fun x => vals_len t x hf) xs

/-- append's result, plain elements. -/
theorem append_flat (h : Inv E lk ι w) {n : Nat} (hn : lk n = none) (hfr : ∀ o a, lk o = some a → n ∉ a.ids) {t ty e : TypeId} {i : TypeInfo} {z : Value} (ht : P.underlying t = some (.slice e)) (hi : P.info? e = some i) (hz : i.zero = some z) (hzs : z.cells.size = i.size)
    {u : RT} (hf : u.flat = true) (hsz : i.size = u.sz) (hpos : 0 < u.sz) (hby : i.bytes ≤ 32768) {D : List Nat} {zs ys : List (El u)} {v vx : Value}
    (hown : w.ownsRow 0 e u.sz v zs.length (flatV u zs)) (hx : Holds w vx ys.length (flatV u ys)) (hle : zs.length + ys.length ≤ LB)
    (hD : ∀ k, v.ownBlock = some k → ∃ o b, o ∈ D ∧ lk o = some b ∧ fp ι o b k) :
    ∃ v' w', (Builtin.append_ #[t, t] ty #[v, vx]).run P w = .ok v' w' ∧ Inv E (taken lk n (.rows e u (zs ++ ys)) D) (ι.put n v' (ι.v2 n)) w' := by
  have hlb : LB = 4294967296 := rfl
  have hml : maxLen = 9223372036854775807 := rfl
  obtain ⟨v', w', hr, ho, hg, hat⟩ := run_append_at (P := P) (ty := ty) ht hi hz hzs (by omega) (by rw [hsz]; exact hown) hx (by rw [hsz]; exact flatV_len u ys hf) (flatV_one u ys) (by omega)
    (by
      have : (zs.length + ys.length) * i.bytes ≤ 4294967296 * 32768 := Nat.mul_le_mul (by omega) hby
      omega)
  refine ⟨v', w', hr, ?_⟩
  rw [hsz] at ho
  refine h.take hn hfr ?_ ?_ ?_ hg.size hg.os hg.tape hg.output
  · show RowRel w' _ n e u (zs ++ ys)
    rw [rowRel_flat hf, (put_same ι n v' _).1, List.length_append, flatV_append]
    exact ho
  · intro k hk
    have hk : v'.ownBlock = some k := by
      simp only [fp, flat_isIn hf, (put_same ι n v' _).1] at hk
      rcases hk with hk | ⟨hk, _⟩
      · exact hk
      · cases hk
    refine ⟨(ho.lt k hk).2, ?_⟩
    rcases hat k hk with h1 | h1
    · exact .inl (hD k h1)
    · exact .inr h1
  · intro k hk hno
    refine hg.block k hk fun e => ?_
    obtain ⟨o, b, hd, hl, hf⟩ := hD k e.symm
    exact hno o b hd hl hf

/-- append's result, rows of rows. -/
theorem append_nest (h : Inv E lk ι w) {n : Nat} (hn : lk n = none) (hfr : ∀ o a, lk o = some a → n ∉ a.ids) {t ty e : TypeId} {i : TypeInfo} {z : Value} (ht : P.underlying t = some (.slice e)) (hi : P.info? e = some i) (hz : i.zero = some z) (hzs : z.cells.size = i.size)
    (hsz : i.size = 1) (hby : i.bytes ≤ 32768) {e2 : TypeId} {a : RT} (hf : a.flat = true) {D : List Nat} {zs ys : List (List (El a))} {v vx : Value} {g : Nat → Value}
    (hown : w.ownsRow 0 e 1 v zs.length ((List.range zs.length).map g)) (hx : Holds w vx ys.length ((List.range ys.length).map fun q => g (zs.length + q))) (hle : zs.length + ys.length ≤ LB)
    (h1 : ∀ u ∈ (List.range ys.length).map fun q => g (zs.length + q), u.oneCell' = true)
    (hD : ∀ k, v.ownBlock = some k → ∃ o b, o ∈ D ∧ lk o = some b ∧ fp ι o b k)
    (hfam : ∀ q x, (zs ++ ys)[q]? = some x → w.ownsRow 0 e2 a.sz (g q) x.length (flatV a x))
    (hf1 : ∀ q k, q < (zs ++ ys).length → (g q).ownBlock = some k → v.ownBlock ≠ some k ∧ ∃ o b, o ∈ D ∧ lk o = some b ∧ fp ι o b k)
    (hf2 : ∀ q r k, q < (zs ++ ys).length → r < (zs ++ ys).length → q ≠ r → (g q).ownBlock = some k → (g r).ownBlock ≠ some k) :
    ∃ v' w', (Builtin.append_ #[t, t] ty #[v, vx]).run P w = .ok v' w' ∧ Inv E (taken lk n (.rows e (.list e2 a) (zs ++ ys)) D) (ι.put n v' g) w' := by
  have hlb : LB = 4294967296 := rfl
  have hml : maxLen = 9223372036854775807 := rfl
  obtain ⟨v', w', hr, ho, hg, hat⟩ := run_append_at (P := P) (ty := ty) ht hi hz hzs (by omega) (by rw [hsz]; exact hown) hx (by rw [hsz]; simp) h1 (by omega)
    (by
      have : (zs.length + ys.length) * i.bytes ≤ 4294967296 * 32768 := Nat.mul_le_mul (by omega) hby
      omega)
  refine ⟨v', w', hr, ?_⟩
  rw [hsz] at ho
  have hlt : ∀ q k, q < (zs ++ ys).length → (g q).ownBlock = some k → k < w.heap.size := by
    intro q k hq hk
    obtain ⟨_, o, b, _, hl, hb⟩ := hf1 q k hq hk
    exact (h.bd o b k hl hb).1
  have hout : ∀ q k, q < (zs ++ ys).length → (g q).ownBlock = some k → v'.ownBlock ≠ some k := by
    intro q k hq hk e
    rcases hat k e with h' | h'
    · exact (hf1 q k hq hk).1 h'
    · have := hlt q k hq hk; omega
  refine h.take hn hfr ?_ ?_ ?_ hg.size hg.os hg.tape hg.output
  · show RowRel w' _ n e (.list e2 a) (zs ++ ys)
    refine ⟨hf, ?_, ?_, ?_, ?_⟩
    · rw [(put_same ι n v' g).1, (put_same ι n v' g).2, List.length_append, List.range_add, List.map_append, List.map_map]
      exact ho
    · intro q x hx
      rw [(put_same ι n v' g).2]
      refine owns_move (hfam q x hx) fun k hk => ?_
      have hq := (List.getElem?_eq_some_iff.1 hx).1
      exact hg.block k (hlt q k hq hk) fun e => (hf1 q k hq hk).1 e.symm
    · intro q k hq hk
      rw [(put_same ι n v' g).2] at hk
      rw [(put_same ι n v' g).1]
      exact hout q k hq hk
    · intro q r k hq hr' hne hk
      rw [(put_same ι n v' g).2] at hk ⊢
      exact hf2 q r k hq hr' hne hk
  · intro k hk
    simp only [fp, (put_same ι n v' g).1, (put_same ι n v' g).2] at hk
    rcases hk with hk | ⟨_, q, hq, hk⟩
    · refine ⟨(ho.lt k hk).2, ?_⟩
      rcases hat k hk with h1 | h1
      · exact .inl (hD k h1)
      · exact .inr h1
    · exact ⟨Nat.lt_of_lt_of_le (hlt q k hq hk) hg.size, .inl (hf1 q k hq hk).2⟩
  · intro k hk hno
    refine hg.block k hk fun e => ?_
    obtain ⟨o, b, hd, hl, hf⟩ := hD k e.symm
    exact hno o b hd hl hf

/-- What an operation that makes one object leaves. -/
theorem Step.take {x : AV} {n : Nat} {a : AO} {D : List Nat} {v : Value} {g : Nat → Value} {r : Result Next} {b : Bool} (hr : r = .ok (.value v) w') (hi : Inv E (taken lk n a D) (ι.put n v g) w') (hv : ARel E (sgOf (taken lk n a D)) (ι.put n v g) x v) :
    Step E lk ι r ⟨x, [], D, [(n, a)], b⟩ := by
  refine ⟨v, w', ι.put n v g, .inl hr, ?_, ?_, fun o ho => ?_⟩
  · rw [apl_take]; exact hi
  · rw [apl_take]; exact hv
  · rw [apl_take]
    exact Fits.taken (lku_one ho)

theorem own_taken {n : Nat} {e : TypeId} {t : RT} {xs : List (El t)} {D : List Nat} {v : Value} {g : Nat → Value} : ARel E (sgOf (taken lk n (.rows e t xs) D)) (ι.put n v g) (.lf (.own n)) v := by
  intro t' m ls _
  exact (put_same ι n v g).1.symm

theorem elemOf_some (hT : TyOk P T) {st e : TypeId} {u : RT} (h : elemOf T st = some (e, u)) : P.underlying st = some (.slice e) ∧ ∃ ei j z, T.ti e = some ei ∧ ei.rt = some u ∧ P.info? e = some j ∧ j.size = u.sz ∧ j.bytes ≤ 32768 ∧ j.zero = some z ∧ z.cells.toList = ei.zero.map valOf ∧ ei.zero.all plainLv = true ∧ rtOk T ei = true := by
  unfold elemOf at h
  split at h
  · rename_i i hi
    obtain ⟨⟨j, d, z, hj, hjs, _, _, _, _, hd, htd', hag⟩, hrt⟩ := hT.fact hi
    split at h
    · rename_i e' htd
      obtain rfl := tdOk_slice htd' htd
      split at h
      · rename_i ei hei
        obtain ⟨⟨je, de, ze, hje, hjes, hjeb, hjez, hzc, hzp, hde, _⟩, hrte⟩ := hT.fact hei
        split at h
        · rename_i u' hu'
          cases hb : (Nat.ble ei.bytes 32768 && Nat.beq ei.size u'.sz) with
          | false => rw [hb] at h; cases h
          | true =>
            rw [hb] at h
            injection h with h
            injection h with h1 h2
            subst h1; subst h2
            simp only [Bool.and_eq_true] at hb
            exact ⟨hd, ei, je, ze, hei, hu', hje, hjes.trans (Nat.eq_of_beq_eq_true hb.2), hjeb ▸ Nat.le_of_ble_eq_true hb.1, hjez, hzc, hzp, hrte⟩
        · cases h
      · cases h
    · cases h
  · cases h

theorem rt_zero {ei : TI} {u : RT} (h : rtOk T ei = true) (hu : ei.rt = some u) : ei.zero.length = u.sz := by
  unfold rtOk at h
  rw [hu] at h
  cases u <;> simp only [Bool.and_eq_true] at h
  case list e a =>
    have := h.1.2
    split at this
    · rename_i h0; rw [h0]; rfl
    · cases this
  all_goals
    have := (sameLvs_val h.2).1
    have h2 := congrArg List.length this
    rw [vals_len _ _ h.1.1] at h2
    simp at h2
    exact h2.symm

theorem appDst_some (h : Inv E lk ι w) (hsub : ∀ o a, lk0 o = some a → lk o = some a) {e : TypeId} {u : RT} {s : LV} {zs : List (El u)} {bs : List Nat} {v : Value} (hs : appDst lk0 e u s = some (zs, bs)) (hv : LRel E (sgOf lk) ι s v) :
    (v = .slice none 0 0 ∧ zs = [] ∧ bs = []) ∨ ∃ o, bs = [o] ∧ lk o = some (.rows e u zs) ∧ v = ι.v o := by
  unfold appDst at hs
  split at hs
  · injection hs with hs
    injection hs with h1 h2
    exact .inl ⟨hv, h1.symm, h2.symm⟩
  · rename_i o
    split at hs
    · rename_i e' t xs ho
      split at hs
      · rename_i he
        subst he
        simp only [Option.map_eq_some_iff] at hs
        obtain ⟨ys, hys, hs⟩ := hs
        injection hs with h1 h2
        subst h1; subst h2
        obtain ⟨rfl, rfl⟩ := castL_some hys
        have ho' := hsub _ _ ho
        exact .inr ⟨o, rfl, ho', hv _ _ _ (by simp only [sgOf, ho', Option.map_some, sig]; rfl)⟩
      · cases hs
    · cases hs
  · cases hs

theorem step_append (hT : TyOk P T) (h : Inv E lk ι w) (hsub : ∀ o a, lk0 o = some a → lk o = some a) {dst : Option Tmp} {st xt ty : TypeId} {ats : Array TypeId} (hats : ats.toList = [st, xt]) {s x : AV} {vs vx : Value} (hs : ARel E (sgOf lk) ι s vs) (hx : ARel E (sgOf lk) ι x vx) {u : Upd} (hu : (evAppend T lk0 dst st xt s x).gives u)
    (hn : lk (nid dst 0) = none) (hfr : ∀ o a, lk o = some a → nid dst 0 ∉ a.ids) {q : Value → World → Result Next} (hq : ∀ v w, q v w = .ok (.value v) w) :
    ∃ v w', (Builtin.append_ ats ty #[vs, vx]).run P w = .ok v w' ∧ Step E lk ι (q v w') u := by
  obtain rfl : ats = #[st, xt] := by rw [← Array.toArray_toList (xs := ats), hats]
  unfold evAppend at hu
  split at hu
  · rename_i e ut s x hel
    obtain ⟨hd, ei, j, z, hei, hrt, hj, hjs, hjb, hjz, hzc, hzp, hrto⟩ := elemOf_some hT hel
    split at hu
    · rename_i ys ds zs bs hsrc hdst
      cases hb : (Nat.beq st xt && !(ds.any fun d => bs.any (Nat.beq d)) && Nat.blt 0 ut.sz) with
      | false => rw [hb] at hu; exact hu.elim
      | true =>
        rw [hb] at hu
        obtain ⟨hle, hu⟩ := hu
        subst hu
        simp only [Bool.and_eq_true, Bool.not_eq_true'] at hb
        obtain ⟨⟨hb1, hb2⟩, hb3⟩ := hb
        have := Nat.eq_of_beq_eq_true hb1
        subst this
        have hpos : 0 < ut.sz := by
          have : 1 ≤ ut.sz := by simpa [Nat.blt] using hb3
          omega
        have hzs : z.cells.size = j.size := by
          rw [hjs, ← rt_zero hrto hrt]
          have := congrArg List.length hzc
          simpa using this
        have hdst' := appDst_some h hsub hdst hs
        unfold appSrc at hsrc
        cases hf : ut.flat with
        | true =>
          rw [hf] at hsrc
          simp only [cond_true, Option.map_eq_some_iff] at hsrc
          obtain ⟨ys', hys', hsrc⟩ := hsrc
          injection hsrc with e1 e2
          subst e1; subst e2
          have hH := slcOf_holds h hsub hys' hf hx
          have key : w.ownsRow 0 e ut.sz vs zs.length (flatV ut zs) ∧ ∀ k, vs.ownBlock = some k → ∃ o b, o ∈ bs ++ [] ∧ lk o = some b ∧ fp ι o b k := by
            rcases hdst' with ⟨rfl, rfl, rfl⟩ | ⟨o, rfl, ho, rfl⟩
            · exact ⟨World.ownsRow_nil _ _ _ _, fun k hk => by simp [Value.ownBlock] at hk⟩
            · have hob : RowRel w ι o e ut zs := h.ob o _ ho
              exact ⟨(rowRel_flat hf).1 hob, fun k hk => ⟨o, _, by simp, ho, .inl hk⟩⟩
          obtain ⟨v', w', hr, hi⟩ := append_flat (P := P) (ty := ty) h hn hfr hd hj hjz hzs hf hjs hpos hjb key.1 hH hle key.2
          exact ⟨v', w', hr, Step.take (hq v' w') hi own_taken⟩
        | false =>
          rw [hf] at hsrc
          simp only [cond_false] at hsrc
          split at hsrc
          · rename_i o2
            -- rows of rows
            obtain ⟨e2, a, rfl, haf⟩ : ∃ e2 a, ut = .list e2 a ∧ a.flat = true := by
              clear hle hx hs hdst' hdst hsrc hb2
              clear ys ds zs bs
              unfold rtOk at hrto
              rw [hrt] at hrto
              cases ut with
              | list e2 a =>
                simp only [Bool.and_eq_true] at hrto
                exact ⟨e2, a, rfl, hrto.1.1.2⟩
              | _ =>
                simp only [Bool.and_eq_true] at hrto
                exact absurd hrto.1.1 (by rw [hf]; simp)
            rcases appDst_some h hsub hsrc hx with ⟨hbad, _, _⟩ | ⟨o2', rfl, ho2, rfl⟩
            · -- its own value is that of a row all the same
              exfalso
              unfold appDst at hsrc
              simp only at hsrc
              split at hsrc
              · split at hsrc
                · simp only [Option.map_eq_some_iff] at hsrc
                  obtain ⟨_, _, hsrc⟩ := hsrc
                  injection hsrc with _ h2
                  simp_all
                · cases hsrc
              · cases hsrc
            have hob2 : RowRel w ι o2' e (.list e2 a) ys := h.ob o2' _ ho2
            obtain ⟨_, q1, q2, q3, q4⟩ := hob2
            have hsz1 : j.size = 1 := hjs
            rcases hdst' with ⟨rfl, rfl, rfl⟩ | ⟨o, rfl, ho, rfl⟩
            · obtain ⟨v', w', hr, hi⟩ := append_nest (P := P) (ty := ty) (zs := []) (ys := ys) (D := [] ++ [o2']) (g := ι.v2 o2') h hn hfr hd hj hjz hzs hsz1 hjb haf (by simpa using World.ownsRow_nil w 0 e 1)
                (by simpa using owns_holds q1) hle
                (by
                  intro u hu
                  simp only [List.length_nil, Nat.zero_add, List.mem_map, List.mem_range] at hu
                  obtain ⟨q, hq, rfl⟩ := hu
                  exact owns_oneCell (q2 q _ (List.getElem?_eq_getElem hq)))
                (fun k hk => by simp [Value.ownBlock] at hk)
                (fun q x hx => q2 q x (by simpa using hx))
                (fun q k hq hk => ⟨by simp [Value.ownBlock], o2', _, by simp, ho2, .inr ⟨rfl, q, by simpa using hq, hk⟩⟩)
                (fun q r k hq hr hne hk => q4 q r k (by simpa using hq) (by simpa using hr) hne hk)
              exact ⟨v', w', hr, Step.take (hq v' w') hi own_taken⟩
            · have hne : o ≠ o2' := by
                rintro rfl
                simp at hb2
              have hob1 : RowRel w ι o e (.list e2 a) zs := h.ob o _ ho
              obtain ⟨_, p1, p2, p3, p4⟩ := hob1
              have hcross : ∀ i j k, i < zs.length → j < ys.length → (ι.v2 o i).ownBlock = some k → (ι.v2 o2' j).ownBlock ≠ some k := by
                intro i j k hi hj hk hk'
                exact h.dj o o2' _ _ ho ho2 hne k (.inr ⟨rfl, i, hi, hk⟩) (.inr ⟨rfl, j, hj, hk'⟩)
              obtain ⟨v', w', hr, hi⟩ := append_nest (P := P) (ty := ty) (zs := zs) (ys := ys) (D := [o] ++ [o2']) (g := fun q => if q < zs.length then ι.v2 o q else ι.v2 o2' (q - zs.length)) h hn hfr hd hj hjz hzs hsz1 hjb haf
                (by
                  have : (List.range zs.length).map (fun q => if q < zs.length then ι.v2 o q else ι.v2 o2' (q - zs.length)) = (List.range zs.length).map (ι.v2 o) := by
                    refine List.map_congr_left fun q hq => ?_
                    rw [if_pos (List.mem_range.1 hq)]
                  rw [this]
                  exact p1)
                (by
                  have : (List.range ys.length).map (fun q => if zs.length + q < zs.length then ι.v2 o (zs.length + q) else ι.v2 o2' (zs.length + q - zs.length)) = (List.range ys.length).map (ι.v2 o2') := by
                    refine List.map_congr_left fun q hq => ?_
                    rw [if_neg (by omega)]
                    congr 1
                    omega
                  rw [this]
                  exact owns_holds q1) hle
                (by
                  intro u hu
                  simp only [List.mem_map, List.mem_range] at hu
                  obtain ⟨q, hq, rfl⟩ := hu
                  rw [if_neg (by omega)]
                  exact owns_oneCell (q2 (zs.length + q - zs.length) _ (List.getElem?_eq_getElem (by omega))))
                (fun k hk => ⟨o, _, by simp, ho, .inl hk⟩)
                (fun q x hx => by
                  by_cases hq : q < zs.length
                  · simp only [if_pos hq]
                    rw [List.getElem?_append_left hq] at hx
                    exact p2 q x hx
                  · simp only [if_neg hq]
                    rw [List.getElem?_append_right (by omega)] at hx
                    exact q2 _ x hx)
                (fun q k hq hk => by
                  by_cases hql : q < zs.length
                  · simp only [if_pos hql] at hk
                    exact ⟨p3 q k hql hk, o, _, by simp, ho, .inr ⟨rfl, q, hql, hk⟩⟩
                  · simp only [if_neg hql] at hk
                    simp only [List.length_append] at hq
                    refine ⟨fun e => ?_, o2', _, by simp, ho2, .inr ⟨rfl, q - zs.length, by omega, hk⟩⟩
                    exact h.dj o o2' _ _ ho ho2 hne k (.inl e) (.inr ⟨rfl, q - zs.length, by omega, hk⟩))
                (fun q r k hq hr hqr hk => by
                  simp only [List.length_append] at hq hr
                  by_cases h1 : q < zs.length <;> by_cases h2 : r < zs.length
                  · simp only [if_pos h1] at hk
                    simp only [if_pos h2]
                    exact p4 q r k h1 h2 hqr hk
                  · simp only [if_pos h1] at hk
                    simp only [if_neg h2]
                    exact hcross q (r - zs.length) k h1 (by omega) hk
                  · simp only [if_neg h1] at hk
                    simp only [if_pos h2]
                    exact fun e => hcross r (q - zs.length) k h2 (by omega) e hk
                  · simp only [if_neg h1] at hk
                    simp only [if_neg h2]
                    exact q4 _ _ k (by omega) (by omega) (by omega) hk)
              exact ⟨v', w', hr, Step.take (hq v' w') hi own_taken⟩
          · cases hsrc
    · exact hu.elim
  · exact hu.elim
end

end Go.Proofs.Ytiooamodldgalaa.Abs
