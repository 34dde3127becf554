/-
One operation that is no call, part seven: boxes, stores, literals, make, sets, conversions.
-/
import Derived.Test.YtiooamodldgalaaAbs10
namespace Go.Proofs.Ytiooamodldgalaa.Abs
open Go

section
variable {E : Ctx} {lk lk0 : Nat → Option AO} {ι : Im} {w w' : World} {P : Program} {T : Env} {sg : Nat → Option Sig}

theorem push_old (o : Obj) (k : Nat) (hk : k < w.heap.size) : (w.heap.push o)[k]? = w.heap[k]? := by
  rw [Array.getElem?_push, if_neg (by omega)]
theorem push_new (o : Obj) : (w.heap.push o)[w.heap.size]? = some o := by simp

/-- What an operation that makes one object, and takes none, leaves. -/
theorem Step.new {n : Nat} {a : AO} {x : AV} {v : Value} {g : Nat → Value} {r : Result Next} {b : Bool} (hr : r = .ok (.value v) w') (hi : Inv E (upd lk n (some a)) (ι.put n v g) w') (hv : ARel E (sgOf (upd lk n (some a))) (ι.put n v g) x v) :
    Step E lk ι r ⟨x, [], [], [(n, a)], b⟩ := by
  refine ⟨v, w', ι.put n v g, .inl hr, ?_, ?_, fun o ho => ?_⟩
  · rw [apl_new]; exact hi
  · rw [apl_new]; exact hv
  · rw [apl_new]; exact Fits.new (lku_one ho)

/-- A new box. -/
theorem new_box (h : Inv E lk ι w) {n : Nat} (hn : lk n = none) (hfr : ∀ o a, lk o = some a → n ∉ a.ids) {t : TypeId} {l : List LV} {cs : Array Value} (hl : n ∉ l.flatMap LV.ids) (hr : F2 (LRel E (sgOf lk) ι) l cs.toList) (h1 : ∀ u ∈ cs.toList, u.oneCell' = true) :
    Inv E (upd lk n (some (.cells t l))) (ι.put n (.pointer (some ⟨w.heap.size, 0, none⟩)) (ι.v2 n)) { w with heap := w.heap.push (.cells cs t) } := by
  refine h.new hn hfr ?_ ?_ (fun k hk => push_old _ k hk) (by simp) rfl rfl rfl
  · refine ⟨w.heap.size, cs, (put_same ι n _ _).1, push_new _, h1, ?_⟩
    exact LRels.mono hr fun o ho => Fits.new fun e => hl (e ▸ ho)
  · intro k hk
    have hk : _ = _ := hk
    rw [(put_same ι n _ _).1] at hk
    injection hk with hk; injection hk with hk; injection hk with hk
    subst hk
    simp

theorem box_ptr {n : Nat} {t : TypeId} {l : List LV} {k : Nat} {g : Nat → Value} : ARel E (sgOf (upd lk n (some (.cells t l)))) (ι.put n (.pointer (some ⟨k, 0, none⟩)) g) (.lf (.ptr n 0)) (.pointer (some ⟨k, 0, none⟩)) := by
  intro _
  exact ⟨k, (put_same ι n _ _).1, rfl⟩

theorem plain_ids {l : List LV} (h : l.all plainLv = true) : l.flatMap LV.ids = [] := by
  rw [List.flatMap_eq_nil_iff]
  intro x hx
  have := List.all_eq_true.1 h x hx
  cases x <;> simp [plainLv] at this <;> rfl

theorem step_alloc (hT : TyOk P T) (h : Inv E lk ι w) {dst : Option Tmp} {t : TypeId} {i : TI} (hi : T.ti t = some i) (hn : lk (nid dst 0) = none) (hfr : ∀ o a, lk o = some a → nid dst 0 ∉ a.ids) {b : Bool} :
    Step E lk ι ((do pure (Next.value (← Instr.alloc t true (.tuple #[]))) : Sem Next).run P w) ⟨.lf (.ptr (nid dst 0) 0), [], [], [(nid dst 0, .cells t i.zero)], b⟩ := by
  obtain ⟨⟨j, d, z, hj, hjs, _, hz, hzc, hzp, hd, htd', hag⟩, hrt⟩ := hT.fact hi
  have e0 := run_zero hj hz w
  have h1 : ∀ u ∈ z.cells.toList, u.oneCell' = true := by
    rw [hzc]
    intro u hu
    obtain ⟨x, hx, rfl⟩ := List.mem_map.1 hu
    have := List.all_eq_true.1 hzp x hx
    cases x <;> simp [plainLv] at this <;> rfl
  have hb := new_box (t := t) h hn hfr (l := i.zero) (cs := z.cells) (by rw [plain_ids hzp]; simp) (by rw [hzc]; exact LRels.plain hzp) h1
  exact Step.new (w' := { w with heap := w.heap.push (.cells z.cells t) }) (by simp [Instr.alloc, e0, newVar, newRow]) hb box_ptr

theorem step_box (h : Inv E lk ι w) (hsub : ∀ o a, lk0 o = some a → lk o = some a) {dst : Option Tmp} {t : TypeId} {x : AV} {v : Value} {l : List LV} (hl : x.cells? = some l) (hs : l.all (LV.solid lk0) = true) (hv : ARel E (sgOf lk) ι x v) (hn : lk (nid dst 0) = none) (hfr : ∀ o a, lk o = some a → nid dst 0 ∉ a.ids) (hfx : nid dst 0 ∉ l.flatMap LV.ids) {b : Bool} :
    Step E lk ι ((do pure (Next.value (← Instr.box t v)) : Sem Next).run P w) ⟨.lf (.ptr (nid dst 0) 0), [], [], [(nid dst 0, .cells t l)], b⟩ := by
  obtain ⟨hr, h1⟩ := AV.stored h hsub hl hv hs
  have hb := new_box (t := t) h hn hfr hfx hr h1
  exact Step.new (w' := { w with heap := w.heap.push (.cells v.cells t) }) (by simp [Instr.box, newVar, newRow]) hb box_ptr

/-! ### Stores -/
theorem run_storeVar (hT : TyOk P T) {t : TypeId} {i : TI} (hi : T.ti t = some i) {v : Value} (hs : v.cells.toList.length = i.size) {g o : Nat} {e : TypeId} {cur : Array Value} (hg : w.heap[g]? = some (.cells cur e (0, 0))) (hle : o + v.cells.toList.length ≤ cur.size) (h1 : ∀ u ∈ v.cells.toList, u.oneCell' = true) :
    (storeVar t ⟨g, o, none⟩ v).run P w = .ok () (w.setRow g (cur.toList.take o ++ v.cells.toList ++ cur.toList.drop (o + v.cells.toList.length)).toArray) := by
  obtain ⟨⟨j, d, z, hj, hjs, _⟩, _⟩ := hT.fact hi
  have e1 := run_size hj w
  have e2 := run_storeCells_at P g o e v.cells.toList 0 cur w hg (by simpa using hle) h1
  simp only [Nat.add_zero] at e2
  have hsz : v.cells.size = j.size := by
    rw [hjs, ← hs]; simp
  simp only [storeVar, Sem.run_bind, e1, Result.andThen_ok, hsz, ne_eq, not_true_eq_false, if_false]
  exact e2

theorem setRow_other' (g k : Nat) (cs : Array Value) (h : k ≠ g) : (w.setRow g cs).heap[k]? = w.heap[k]? := setRow_other w g k cs h
theorem setRow_at {g : Nat} {cur cs : Array Value} {t : TypeId} (hg : w.heap[g]? = some (.cells cur t (0, 0))) : (w.setRow g cs).heap[g]? = some (.cells cs t (0, 0)) := setRow_heap w g cur cs t (0, 0) hg
theorem setRow_size (g : Nat) (cs : Array Value) : (w.setRow g cs).heap.size = w.heap.size := by simp [World.setRow]

/-- What an operation that turns one object leaves. -/
theorem Step.set {n : Nat} {a c : AO} {v : AV} {y : Value} {r : Result Next} {b : Bool} (hn : lk n = some a) (hr : r = .ok (.value y) w' ∨ (r = .ok .skip w' ∧ y = Go.undef)) (hi : Inv E (upd lk n (some c)) ι w' ∧ sgOf (upd lk n (some c)) = sgOf lk) (hv : ARel E (sgOf lk) ι v y) :
    Step E lk ι r ⟨v, [(n, c)], [], [], b⟩ := by
  have e := apl_set v n c b (lk := lk) (by rw [hn]; rfl)
  refine ⟨y, w', ι, hr, ?_, ?_, fun o _ => ?_⟩
  · rw [e]; exact hi.1
  · rw [e, hi.2]; exact hv
  · rw [e, hi.2]; exact Fits.refl o

theorem mem_splice {α : Type} {l m : List α} {o : Nat} {p : α → Prop} (h1 : ∀ u ∈ l, p u) (h2 : ∀ u ∈ m, p u) : ∀ u ∈ l.take o ++ m ++ l.drop (o + m.length), p u := by
  intro u hu
  simp only [List.mem_append] at hu
  rcases hu with (hu | hu) | hu
  · exact h1 u (List.mem_of_mem_take hu)
  · exact h2 u hu
  · exact h1 u (List.mem_of_mem_drop hu)

/-- A row written at one element. -/
theorem row_set {α : Type} {e : TypeId} {sz n m c g : Nat} {f : α → List Value} (hf : ∀ x : α, (f x).length = sz) {xs : List α} {x : α} {i : Nat} {cur : Array Value} (h : w.ownsRow 0 e sz (.slice (some ⟨g, 0, none⟩) m c) n (xs.flatMap f)) (hn : n = xs.length)
    (hg : w.heap[g]? = some (.cells cur e (0, 0))) (hi : i < xs.length) {off : Nat} {ds : List Value} (hds : (f (xs[i])).take off ++ ds ++ (f (xs[i])).drop (off + ds.length) = f x) (hle : off + ds.length ≤ sz) :
    (w.setRow g (cur.toList.take (i * sz + off) ++ ds ++ cur.toList.drop (i * sz + off + ds.length)).toArray).ownsRow 0 e sz (.slice (some ⟨g, 0, none⟩) m c) n ((xs.set i x).flatMap f) := by
  subst hn
  rcases h.2 with ⟨he, _⟩ | ⟨g', cap, cur', he, _, hg', hnc, hcm, hcs, htk⟩
  · simp at he
  · injection he with he1 he2 he3
    injection he1 with he1
    injection he1 with he1
    subst he1; subst he3
    rw [hg] at hg'
    injection hg' with hg'
    injection hg' with hg'
    subst hg'
    have hlen : (xs.flatMap f).length = xs.length * sz := h.1
    have hisz : i * sz + sz ≤ xs.length * sz := by rw [← Nat.succ_mul]; exact Nat.mul_le_mul_right _ hi
    subst he2
    have hcl : xs.length * sz ≤ cur.toList.length := by
      have e1 : cur.toList.length = c * sz := by simpa using hcs
      rw [e1]; exact Nat.mul_le_mul_right _ hnc
    refine ⟨by rw [fm_len hf, List.length_set], .inr ⟨g, c, _, rfl, Nat.zero_le _, setRow_at hg, hnc, hcm, ?_, ?_⟩⟩
    · have e0 : cur.toList.length = cur.size := by simp
      simp
      omega
    · -- the first cells
      have hxi : (xs.flatMap f).drop (i * sz) = f xs[i] ++ (xs.flatMap f).drop ((i + 1) * sz) := by
        rw [fm_drop hf, fm_drop hf, List.drop_eq_getElem_cons hi, List.flatMap_cons]
      rw [fm_set hf hi, ← hds]
      have hcur : cur.toList = xs.flatMap f ++ cur.toList.drop (xs.length * sz) := by
        rw [← htk, List.take_append_drop]
      rw [List.toList_toArray, hcur]
      generalize cur.toList.drop (xs.length * sz) = rest
      have hA : (xs.flatMap f ++ rest).take (i * sz + off) = (xs.flatMap f).take (i * sz) ++ (f xs[i]).take off := by
        rw [List.take_append_of_le_length (by omega), ← List.take_append_drop (i * sz) (xs.flatMap f), List.take_append]
        simp only [List.length_take, hlen, Nat.min_eq_left (show i * sz ≤ xs.length * sz by omega)]
        rw [List.take_of_length_le (by simp; omega), List.take_append_drop, hxi]
        congr 1
        rw [Nat.add_sub_cancel_left, List.take_append_of_le_length (by rw [hf]; omega)]
      have hB : (xs.flatMap f ++ rest).drop (i * sz + off + ds.length) = (f xs[i]).drop (off + ds.length) ++ (xs.flatMap f).drop ((i + 1) * sz) ++ rest := by
        rw [List.drop_append_of_le_length (by omega), Nat.add_assoc, ← List.drop_drop, hxi, List.drop_append_of_le_length (by rw [hf]; omega)]
      rw [hA, hB]
      have hL : ((xs.flatMap f).take (i * sz) ++ (f xs[i]).take off ++ ds ++ ((f xs[i]).drop (off + ds.length) ++ (xs.flatMap f).drop ((i + 1) * sz) ++ rest)) =
          ((xs.flatMap f).take (i * sz) ++ ((f xs[i]).take off ++ ds ++ (f xs[i]).drop (off + ds.length)) ++ (xs.flatMap f).drop ((i + 1) * sz)) ++ rest := by
        simp [List.append_assoc]
      rw [hL]
      refine List.take_left' ?_
      simp only [List.length_append, List.length_take, List.length_drop, hlen, hf]
      have : (i + 1) * sz = i * sz + sz := Nat.succ_mul i sz
      omega

theorem all_len {l : List LV} {n : Nat} (h : Nat.beq l.length n = true) : l.length = n := Nat.eq_of_beq_eq_true h

theorem setEl_some {t : RT} {xs ys : List (El t)} {i off : Nat} {new : List LV} (h : setEl t xs i off new = some ys) : ∃ l x, splice (lvs t (xs.getD i t.zero)) off new = some l ∧ unlv t l = some (x, []) ∧ ys = xs.set i x := by
  unfold setEl at h
  split at h
  · rename_i l hl
    split at h
    · rename_i x hx
      injection h with h
      exact ⟨l, x, hl, hx, h.symm⟩
    · cases h
  · cases h

/-- An element written, the machine's side. -/
theorem el_set (h : Inv E lk ι w) {t : RT} (hf : t.flat = true) {xs ys : List (El t)} {i off : Nat} {new : List LV} {ds : List Value} (hs : setEl t xs i off new = some ys) (hr : F2 (LRel E (sgOf lk) ι) new ds) (hi : i < xs.length) :
    ∃ x, ys = xs.set i x ∧ (vals t xs[i]).take off ++ ds ++ (vals t xs[i]).drop (off + ds.length) = vals t x ∧ off + ds.length ≤ t.sz := by
  obtain ⟨l, x, hl, hx, rfl⟩ := setEl_some hs
  have hg : xs.getD i t.zero = xs[i] := by rw [List.getD_eq_getElem?_getD, List.getElem?_eq_getElem hi]; rfl
  rw [hg] at hl
  have hrel := splice_rel hl (lvs_vals t xs[i] hf) hr
  have := unlv_all hrel hx
  obtain ⟨_, hle⟩ := splice_some hl
  rw [lvs_len, hr.length] at hle
  exact ⟨x, rfl, this, hle⟩

theorem step_store (hT : TyOk P T) (h : Inv E lk ι w) (hsub : ∀ o a, lk0 o = some a → lk o = some a) {t : TypeId} {x v : AV} {vx vv : Value} (hx : ARel E (sgOf lk) ι x vx) (hv : ARel E (sgOf lk) ι v vv) {u : Upd} (hu : (evStore T lk0 t x v).gives u) :
    Step E lk ι ((do Instr.storeAt t vx vv; pure .skip : Sem Next).run P w) u := by
  unfold evStore at hu
  split at hu
  · rename_i i p new hi hnew
    cases hb : (Nat.beq new.length i.size && new.all (LV.solid lk0)) with
    | false => rw [hb] at hu; exact hu.elim
    | true =>
      rw [hb] at hu
      simp only [Bool.and_eq_true] at hb
      obtain ⟨hb1, hb2⟩ := hb
      have hlen := Nat.eq_of_beq_eq_true hb1
      obtain ⟨hr, h1⟩ := AV.stored h hsub hnew hv hb2
      have hds : vv.cells.toList.length = i.size := by rw [← hr.length, hlen]
      simp only [cond_true] at hu
      split at hu
      · -- a box
        rename_i o off
        split at hu
        · rename_i t' vs ho
          have ho' := hsub _ _ ho
          split at hu
          · rename_i l hl
            have hu : u = _ := hu
            subst hu
            obtain ⟨g, hg, rfl⟩ := hx (by simp [sgOf, ho', sig])
            obtain ⟨g', cs, hg', hb, hc1, hcr⟩ := h.ob o _ ho'
            rw [hg] at hg'
            injection hg' with e; injection e with e; injection e with e
            subst e
            obtain ⟨_, hle⟩ := splice_some hl
            rw [hr.length, hcr.length] at hle
            have hrun := run_storeVar hT hi hds hb (by simpa using hle) h1
            refine Step.set (w' := w.setRow g (cs.toList.take off ++ vv.cells.toList ++ cs.toList.drop (off + vv.cells.toList.length)).toArray) (y := Go.undef) ho' (.inr ⟨?_, rfl⟩) ?_ rfl
            · simp only [Instr.storeAt, Instr.sureAddr, pure_bind, Sem.run_bind, hrun, Result.andThen_ok, Sem.run_pure]
            · refine h.set ho' rfl ?_ ?_ ?_ (setRow_size _ _) rfl rfl rfl
              · refine ⟨g, _, hg, setRow_at hb, ?_, ?_⟩
                · rw [List.toList_toArray]
                  exact mem_splice hc1 h1
                · rw [List.toList_toArray]
                  exact splice_rel hl hcr hr
              · intro k hk
                exact hk
              · intro k _ hk
                refine setRow_other' g k _ fun e => hk ?_
                subst e
                exact hg
          · exact hu.elim
        · exact hu.elim
      · -- an element of a row
        rename_i o i' off
        split at hu
        · rename_i e t' xs ho
          have ho' := hsub _ _ ho
          cases hf : t'.flat with
          | false => rw [hf] at hu; exact hu.elim
          | true =>
            rw [hf] at hu
            simp only [cond_true] at hu
            split at hu
            · rename_i ys hys
              have hu : u = _ := hu
              subst hu
              obtain ⟨hlt, g, m, c, hg, rfl⟩ := hx t' xs.length (lens t' xs) (by simp [sgOf, ho', sig])
              have hob : RowRel w ι o e t' xs := h.ob o _ ho'
              have hrow := (rowRel_flat hf).1 hob
              rw [hg] at hrow
              obtain ⟨x', rfl, hds', hle⟩ := el_set h hf hys hr hlt
              obtain ⟨cur, hcur, hcs, hnc⟩ : ∃ cur, w.heap[g]? = some (.cells cur e (0, 0)) ∧ cur.size = c * t'.sz ∧ xs.length ≤ c := by
                rcases hrow.2 with ⟨he, _⟩ | ⟨g', cap, cur', he, _, hg', hnc, hcm, hcs, htk⟩
                · simp at he
                · injection he with he1 he2 he3
                  injection he1 with he1
                  injection he1 with he1
                  subst he1; subst he3
                  exact ⟨cur', hg', hcs, hnc⟩
              have hfit : i' * t'.sz + off + vv.cells.toList.length ≤ cur.size := by
                have h2 : i' * t'.sz + t'.sz ≤ xs.length * t'.sz := by rw [← Nat.succ_mul]; exact Nat.mul_le_mul_right _ hlt
                have h3 : xs.length * t'.sz ≤ c * t'.sz := Nat.mul_le_mul_right _ hnc
                omega
              have hrun := run_storeVar hT hi hds hcur hfit h1
              have hset := row_set (fun x => vals_len t' x hf) hrow rfl hcur hlt hds' hle
              refine Step.set (w' := w.setRow g (cur.toList.take (i' * t'.sz + off) ++ vv.cells.toList ++ cur.toList.drop (i' * t'.sz + off + vv.cells.toList.length)).toArray) (y := Go.undef) ho' (.inr ⟨?_, rfl⟩) ?_ rfl
              · simp only [Instr.storeAt, Instr.sureAddr, pure_bind, Sem.run_bind, hrun, Result.andThen_ok, Sem.run_pure]
              · refine h.set ho' ?_ ?_ ?_ ?_ (setRow_size _ _) rfl rfl rfl
                · have hl : ∀ zs : List (El t'), lens t' zs = [] := by
                    intro zs
                    cases t' <;> first | rfl | simp [RT.flat] at hf
                  simp [sig, hl]
                · show RowRel _ ι o e t' _
                  rw [rowRel_flat hf, hg, List.length_set]
                  exact hset
                · intro k hk
                  simp only [fp, flat_isIn hf] at hk ⊢
                  rcases hk with hk | ⟨hk, _⟩
                  · exact .inl hk
                  · cases hk
                · intro k _ hk
                  refine setRow_other' g k _ fun e => hk ?_
                  subst e
                  exact .inl (by rw [hg]; rfl)
            · exact hu.elim
        · exact hu.elim
      · -- an element of a row in a row
        rename_i o i' j' off
        split at hu
        · rename_i e e2 t' xs ho
          have ho' := hsub _ _ ho
          cases hf : t'.flat with
          | false => rw [hf] at hu; exact hu.elim
          | true =>
            rw [hf] at hu
            simp only [cond_true] at hu
            split at hu
            · rename_i ys hys
              have hu : u = _ := hu
              subst hu
              obtain ⟨hlt, hlt2, g, m, c, hg, rfl⟩ := hx e2 t' xs.length (lens (.list e2 t') xs) (by simp [sgOf, ho', sig])
              have hlt2 : j' < (xs.getD i' []).length := by
                have e1 : (lens (.list e2 t') xs).getD i' 0 = (xs.getD i' []).length := by
                  show (xs.map List.length).getD i' 0 = _
                  rw [List.getD_eq_getElem?_getD, List.getD_eq_getElem?_getD, List.getElem?_map, List.getElem?_eq_getElem hlt]
                  rfl
                rwa [e1] at hlt2
              have hob : RowRel w ι o e (.list e2 t') xs := h.ob o _ ho'
              obtain ⟨_, q1, q2, q3, q4⟩ := hob
              have hxi : xs[i']? = some (xs.getD i' []) := by
                rw [List.getD_eq_getElem?_getD, List.getElem?_eq_getElem hlt]
                rfl
              have hrow := q2 i' _ hxi
              rw [hg] at hrow
              obtain ⟨x', rfl, hds', hle⟩ := el_set h hf hys hr hlt2
              obtain ⟨cur, hcur, hcs, hnc⟩ : ∃ cur, w.heap[g]? = some (.cells cur e2 (0, 0)) ∧ cur.size = c * t'.sz ∧ (xs.getD i' []).length ≤ c := by
                rcases hrow.2 with ⟨he, _⟩ | ⟨g', cap, cur', he, _, hg', hnc, hcm, hcs, htk⟩
                · simp at he
                · injection he with he1 he2 he3
                  injection he1 with he1
                  injection he1 with he1
                  subst he1; subst he3
                  exact ⟨cur', hg', hcs, hnc⟩
              have hfit : j' * t'.sz + off + vv.cells.toList.length ≤ cur.size := by
                have h2 : j' * t'.sz + t'.sz ≤ (xs.getD i' []).length * t'.sz := by rw [← Nat.succ_mul]; exact Nat.mul_le_mul_right _ hlt2
                have h3 : (xs.getD i' []).length * t'.sz ≤ c * t'.sz := Nat.mul_le_mul_right _ hnc
                omega
              have hrun := run_storeVar hT hi hds hcur hfit h1
              have hset := row_set (fun x => vals_len t' x hf) hrow rfl hcur hlt2 hds' hle
              have hgo : (ι.v2 o i').ownBlock = some g := by rw [hg]; rfl
              have hout := q3 i' g hlt hgo
              generalize hw1 : w.setRow g (cur.toList.take (j' * t'.sz + off) ++ vv.cells.toList ++ cur.toList.drop (j' * t'.sz + off + vv.cells.toList.length)).toArray = w1 at *
              have hother : ∀ k, k ≠ g → w1.heap[k]? = w.heap[k]? := fun k hk => by rw [← hw1]; exact setRow_other' g k _ hk
              have hsize : w1.heap.size = w.heap.size := by rw [← hw1]; exact setRow_size _ _
              have hgrown : w.grownBy w1 (some g) := ⟨by rw [← hw1]; rfl, by rw [← hw1]; rfl, by rw [← hw1]; rfl, by rw [hsize]; exact Nat.le_refl _, fun k _ hk => hother k (fun e => hk (by rw [e]))⟩
              refine Step.set (w' := w1) (y := Go.undef) ho' (.inr ⟨?_, rfl⟩) ?_ rfl
              · simp only [Instr.storeAt, Instr.sureAddr, pure_bind, Sem.run_bind, hrun, Result.andThen_ok, Sem.run_pure]
              · refine h.set ho' ?_ ?_ ?_ ?_ hsize hgrown.os hgrown.tape hgrown.output
                · simp only [sig, List.length_set, lens]
                  congr 1
                  apply List.ext_getElem?
                  intro q
                  rw [List.getElem?_map, List.getElem?_map]
                  by_cases hq : q = i'
                  · subst hq
                    rw [List.getElem?_set_self hlt, hxi]
                    simp
                  · rw [List.getElem?_set_ne (fun e => hq e.symm)]
                · refine ⟨hf, ?_, ?_, ?_, ?_⟩
                  · rw [List.length_set]
                    refine q1.kept hgrown ?_
                    cases hb : (ι.v o).ownBlock with
                    | none => exact .inl rfl
                    | some k => exact .inr fun e => hout (by rw [hb, e])
                  · intro q x hq
                    by_cases hqi : q = i'
                    · subst hqi
                      rw [List.getElem?_set_self hlt] at hq
                      injection hq with hq
                      subst hq
                      rw [hg, List.length_set]
                      exact hset
                    · rw [List.getElem?_set_ne (fun e => hqi e.symm)] at hq
                      have hql : q < xs.length := (List.getElem?_eq_some_iff.1 hq).1
                      refine (q2 q x hq).kept hgrown ?_
                      cases hb : (ι.v2 o q).ownBlock with
                      | none => exact .inl rfl
                      | some k => exact .inr fun e => q4 i' q g hlt hql (fun e => hqi e.symm) hgo (by rw [hb, e])
                  · intro q k hq hk
                    rw [List.length_set] at hq
                    exact q3 q k hq hk
                  · intro q q' k hq hq' hne hk
                    rw [List.length_set] at hq hq'
                    exact q4 q q' k hq hq' hne hk
                · intro k hk
                  rcases hk with hk | ⟨e1, q, hq, hk⟩
                  · exact .inl hk
                  · rw [List.length_set] at hq
                    exact .inr ⟨e1, q, hq, hk⟩
                · intro k _ hk
                  refine hother k fun e => hk ?_
                  subst e
                  exact .inr ⟨rfl, i', hlt, hgo⟩
            · exact hu.elim
        · exact hu.elim
      · exact hu.elim
  · exact hu.elim
end

end Go.Proofs.Ytiooamodldgalaa.Abs
