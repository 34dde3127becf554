/-
One operation that is no call, part two: reads, and what only computes.
-/
import Derived.Test.YtiooamodldgalaaAbs5
namespace Go.Proofs.Ytiooamodldgalaa.Abs
open Go

section
variable {E : Ctx} {lk lk0 : Nat → Option AO} {ι : Im} {w w' : World} {P : Program} {T : Env}

theorem gives_map {α β : Type} {r : Res α} {f : α → β} {u : β} (h : (r.map f).gives u) : ∃ a, r.gives a ∧ u = f a := by
  cases r with
  | stuck => exact h.elim
  | ok a => exact ⟨a, rfl, h⟩
  | chk c d a => exact ⟨a, ⟨h.1, rfl⟩, h.2⟩
  | go X g k =>
    obtain ⟨x, hg, hu⟩ := h
    exact ⟨k x, ⟨x, hg, rfl⟩, hu⟩

theorem v_run {s : Sem Value} {x : Value} (h : s.run P w = .ok x w') : (do pure (Next.value (← s)) : Sem Next).run P w = .ok (.value x) w' := by
  simp [h]

theorem add_lit (g o j : Nat) : (⟨g, o, none⟩ : Addr).add j = ⟨g, o + j, none⟩ := by
  unfold Addr.add
  split <;> simp_all

theorem add_add (a : Addr) (i j : Nat) : (a.add i).add j = a.add (i + j) := by
  unfold Addr.add
  by_cases hi : i = 0 <;> by_cases hj : j = 0 <;> simp [hi, hj, Nat.add_assoc]

theorem add_block (a : Addr) (i : Nat) : (a.add i).block = a.block := by
  unfold Addr.add
  split <;> rfl

theorem seg_some {l r : List LV} {off n : Nat} (h : seg l off n = some r) : r = (l.drop off).take n ∧ off + n ≤ l.length := by
  unfold seg at h
  cases hb : Nat.ble (off + n) l.length with
  | true => rw [hb] at h; simp at h; exact ⟨h.symm, Nat.le_of_ble_eq_true hb⟩
  | false => rw [hb] at h; simp at h

theorem SV_lvs {sg : Nat → Option Sig} : ∀ (t : RT) {x : El t} {cs : List Value}, SV E t x cs → F2 (LRel E sg ι) (lvs t x) cs
  | .int _, _, _, h => by have h : _ = _ := h; subst h; exact .single rfl
  | .bool, _, _, h => by have h : _ = _ := h; subst h; exact .single rfl
  | .str, _, _, h => by have h : _ = _ := h; subst h; exact .single rfl
  | .pair a b, x, cs, h => by
    obtain ⟨c, d, rfl, h1, h2⟩ := h
    exact (SV_lvs a h1).append (SV_lvs b h2)
  | .list _ a, xs, cs, h => by
    obtain ⟨A, n, rfl, h1, h2⟩ := h
    exact .single ⟨A, n, rfl, h1, h2⟩

theorem cellRow {g j : Nat} {cs : Array Value} {t : TypeId} {fr : Nat × Nat} (hg : w.heap[g]? = some (.cells cs t fr)) : w.cell? ⟨g, j, none⟩ = cs[j]? := cell_of_row w g j cs t fr hg

theorem drop_take_get {α : Type} {l : List α} {off n j : Nat} {u : α} (h : ((l.drop off).take n)[j]? = some u) : l[off + j]? = some u := by
  rw [List.getElem?_take] at h
  split at h
  · rwa [List.getElem?_drop] at h
  · cases h

theorem getD_get {α : Type} {xs : List α} {i : Nat} (h : i < xs.length) (d : α) : xs[i]? = some (xs.getD i d) := by
  rw [List.getD_eq_getElem?_getD, List.getElem?_eq_getElem h]
  rfl

theorem lens_get (e : TypeId) (a : RT) (xs : List (List (El a))) (i : Nat) : (lens (.list e a) xs).getD i 0 = (xs.getD i []).length := by
  simp only [lens, List.getD_eq_getElem?_getD, List.getElem?_map]
  cases xs[i]? <;> rfl

theorem rowLv_flat (o i : Nat) (t : RT) (xs : List (El t)) (h : t.flat = true) : rowLv o i t xs = lvs t (xs.getD i t.zero) := by
  cases t <;> first | rfl | simp [RT.flat] at h

/-- A row of the machine's, as its block. -/
theorem owns_cell {base : Nat} {e : TypeId} {size n m c g : Nat} {xs : List Value} (h : w.ownsRow base e size (.slice (some ⟨g, 0, none⟩) m c) n xs) {j : Nat} {u : Value} (hj : xs[j]? = some u) : w.cell? ⟨g, j, none⟩ = some u := by
  have := h.cells (g := g) (by simp [Value.ownBlock]) j u hj
  rwa [add_lit, Nat.zero_add] at this

theorem ldc_sound (h : Inv E lk ι w) (hsub : ∀ o a, lk0 o = some a → lk o = some a) {n : Nat} {p : LV} {l : List LV} {v : Value} (hl : ldc lk0 n p = some l) (hv : LRel E (sgOf lk) ι p v) :
    ∃ ad cs, v = .pointer (some ad) ∧ F2 (LRel E (sgOf lk) ι) l cs ∧ l.length = n ∧ ∀ (j : Nat) (u : Value), cs[j]? = some u → w.cell? (ad.add j) = some u := by
  cases p <;> simp only [ldc] at hl <;> try (cases hl; done)
  case ptr o off =>
    split at hl
    · rename_i t vs ho
      have ho' := hsub _ _ ho
      obtain ⟨rfl, hle⟩ := seg_some hl
      obtain ⟨g, hg, rfl⟩ := hv (by simp [sgOf, ho', sig])
      obtain ⟨g', cs, hg', hb, _, hr⟩ := h.ob o _ ho'
      rw [hg] at hg'
      injection hg' with e; injection e with e; injection e with e
      subst e
      refine ⟨_, (cs.toList.drop off).take n, rfl, (hr.drop off).take n, by simp; omega, fun j u hu => ?_⟩
      have := drop_take_get hu
      rw [add_lit, cellRow hb]
      simpa using this
    · cases hl
  case eptr o i off =>
    split at hl
    · rename_i e t xs ho
      have ho' := hsub _ _ ho
      obtain ⟨rfl, hle⟩ := seg_some hl
      obtain ⟨hi, g, m, c, hg, rfl⟩ := hv t xs.length (lens t xs) (by simp [sgOf, ho', sig])
      have hob : RowRel w ι o e t xs := h.ob o _ ho'
      by_cases hf : t.flat = true
      · have hrow : w.ownsRow 0 e t.sz (ι.v o) xs.length (flatV t xs) := by
          cases t <;> first | exact hob.2 | simp [RT.flat] at hf
        rw [rowLv_flat o i t xs hf] at hle ⊢
        rw [lvs_len] at hle
        refine ⟨_, ((vals t (xs.getD i t.zero)).drop off).take n, rfl, ((lvs_vals t _ hf).drop off).take n, by simp [lvs_len]; omega, fun j u hu => ?_⟩
        have h1 := drop_take_get hu
        have hj : off + j < t.sz := by
          have := (List.getElem?_eq_some_iff.1 h1).1
          rwa [vals_len t _ hf] at this
        rw [add_lit]
        rw [hg] at hrow
        refine owns_cell hrow ?_
        rw [show i * t.sz + off + j = i * t.sz + (off + j) by omega]
        unfold flatV
        rw [fm_get (fun x => vals_len t x hf) (getD_get hi t.zero) hj]
        exact h1
      · cases t <;> first | (simp [RT.flat] at hf; done) | skip
        case pair a b =>
          have := hob.1
          exact absurd this hf
        case list e2 a =>
          have hrow : w.ownsRow 0 e 1 (ι.v o) xs.length ((List.range xs.length).map (ι.v2 o)) := hob.2.1
          refine ⟨_, (([ι.v2 o i] : List Value).drop off).take n, rfl, ?_, by simp [rowLv] at hle ⊢; omega, fun j u hu => ?_⟩
          · refine F2.take (F2.drop (.single ?_) _) _
            intro t' n' ls' hs
            simp [sgOf, ho', sig] at hs
            obtain ⟨_, rfl, _⟩ := hs
            exact ⟨hi, rfl⟩
          · have h1 := drop_take_get hu
            have h2 : off + j = 0 ∧ u = ι.v2 o i := by
              have := (List.getElem?_eq_some_iff.1 h1).1
              simp at this
              have e0 : off + j = 0 := by omega
              rw [e0] at h1
              simp at h1
              exact ⟨e0, h1.symm⟩
            rw [add_lit]
            rw [hg] at hrow
            refine owns_cell hrow ?_
            rw [show i * (RT.list e2 a).sz + off + j = i by simp [RT.sz]; omega]
            rw [h2.2]
            simp [hi]
    · cases hl
  case iptr o i j off =>
    split at hl
    · rename_i e t xs ho
      have ho' := hsub _ _ ho
      cases t <;> simp only [inner] at hl <;> try (cases hl; done)
      case list e2 a =>
        cases hf : a.flat with
        | false => rw [hf] at hl; simp at hl
        | true =>
          rw [hf] at hl
          simp only [cond_true] at hl
          obtain ⟨rfl, hle⟩ := seg_some hl
          rw [lvs_len] at hle
          obtain ⟨hi, hj, g, m, c, hg, rfl⟩ := hv e2 a xs.length (lens _ xs) (by simp [sgOf, ho', sig])
          have hob : RowRel w ι o e (.list e2 a) xs := h.ob o _ ho'
          have hx := getD_get hi ([] : List (El a))
          have hrow := hob.2.2.1 i _ hx
          have hjl : j < (xs.getD i ([] : List (El a))).length := by
            have := lens_get e2 a xs i
            omega
          refine ⟨_, ((vals a ((xs.getD i ([] : List (El a))).getD j a.zero)).drop off).take n, rfl, ((lvs_vals a _ hf).drop off).take n, by simp [lvs_len]; omega, fun q u hu => ?_⟩
          have h1 := drop_take_get hu
          have hq : off + q < a.sz := by
            have := (List.getElem?_eq_some_iff.1 h1).1
            rwa [vals_len a _ hf] at this
          rw [add_lit]
          rw [hg] at hrow
          refine owns_cell hrow ?_
          rw [show j * a.sz + off + q = j * a.sz + (off + q) by omega]
          unfold flatV
          rw [fm_get (fun x => vals_len a x hf) (getD_get hjl a.zero) hq]
          exact h1
    · cases hl
  case rptr t x off =>
    obtain ⟨rfl, hle⟩ := seg_some hl
    rw [lvs_len] at hle
    obtain ⟨ad, cs, rfl, hsv, hS, hc⟩ := hv
    refine ⟨ad, (cs.drop off).take n, rfl, ((SV_lvs t hsv).drop off).take n, by simp [lvs_len]; omega, fun j u hu => ?_⟩
    have h1 := hc j u (drop_take_get hu)
    rw [← h1]
    refine World.cell?_of_block ?_
    rw [add_block]
    exact h.agree _ hS

theorem step_load (hT : TyOk P T) (h : Inv E lk ι w) (hsub : ∀ o a, lk0 o = some a → lk o = some a) {t : TypeId} {x : AV} {v : Value} (hv : ARel E (sgOf lk) ι x v) {u : AV} (hu : (evLoad T lk0 t x).gives u) :
    ∃ y, (Instr.loadAt t v).run P w = .ok y w ∧ ARel E (sgOf lk) ι u y := by
  unfold evLoad at hu
  split at hu
  · rename_i i p hi
    obtain ⟨⟨j, d, z, hj, hjs, _, _, _, _, hd, _, hag⟩, _⟩ := hT.fact hi
    split at hu
    · rename_i l hl
      obtain ⟨ad, cs, rfl, hr, hn, hc⟩ := ldc_sound h hsub hl hv
      have hlen : cs.length = j.size := by rw [← hr.length, hn, hjs]
      cases hA : i.agg with
      | true =>
        rw [hA] at hu hag
        simp only [cond_true] at hu
        have hu : u = _ := hu
        subst hu
        refine ⟨.agg cs.toArray, ?_, cs.toArray, rfl, by simpa using hr⟩
        have h1 := run_isAgg hd w
        rw [hag] at h1
        have h2 := run_size hj w
        have h3 := run_loadCells_list (P := P) w ad cs hc
        rw [hlen] at h3
        simp [Instr.loadAt, Instr.sureAddr, loadVar, h1, h2, h3]
      | false =>
        rw [hA] at hu hag
        simp only [cond_false] at hu
        split at hu
        · rename_i y
          have hu : u = _ := hu
          subst hu
          cases hr with
          | cons hy hn' =>
            cases hn'
            rename_i c
            refine ⟨c, ?_, hy⟩
            have h1 := run_isAgg hd w
            rw [hag] at h1
            have h2 : w.cell? ad = some c := by simpa [Addr.add] using hc 0 c rfl
            simp [Instr.loadAt, Instr.sureAddr, loadVar, h1, h2]
        · exact hu.elim
    · exact hu.elim
  · exact hu.elim
end

end Go.Proofs.Ytiooamodldgalaa.Abs
