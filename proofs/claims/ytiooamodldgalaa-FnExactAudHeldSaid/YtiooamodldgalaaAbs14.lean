/-
One operation that is no call of a function: what the evaluator says of it holds of the machine.
-/
import Derived.Test.YtiooamodldgalaaAbs13
import Derived.Lib.AppendZeros
namespace Go.Proofs.Ytiooamodldgalaa.Abs
open Go

section
variable {E : Ctx} {lk lk0 : Nat → Option AO} {ι : Im} {w w' : World} {P : Program} {T : Env} {sg : Nat → Option Sig}

theorem Step.val (h : Inv E lk ι w) {s : Sem Value} {x : AV} (hs : ∃ z, s.run P w = .ok z w ∧ ARel E (sgOf lk) ι x z) : Step E lk ι ((do Pure.pure (Next.value (← s)) : Sem Next).run P w) (.pure x) := by
  obtain ⟨z, h1, h2⟩ := hs
  exact Step.pure h (v_run h1) h2

/-! ### Zeros behind nil; a slice's head -/
theorem step_cap (hT : TyOk P T) {t ty : TypeId} {ats : Array TypeId} (hats : ats.toList = [t]) {x : AV} {v : Value} (hv : ARel E sg ι x v) {u : AV} (hu : (evCap T t x).gives u) :
    ∃ z, (Builtin.cap_ ats ty #[v]).run P w = .ok z w ∧ ARel E sg ι u z := by
  obtain rfl : ats = #[t] := by rw [← Array.toArray_toList (xs := ats), hats]
  unfold evCap at hu
  split at hu
  · rename_i i hi
    obtain ⟨⟨j, d, z, hj, hjs, _, _, _, _, hd, htd', hag⟩, hrt⟩ := hT.fact hi
    have e1 := run_underlying hd w
    split at hu
    · rename_i e htd
      obtain rfl := tdOk_slice htd' htd
      have hv : v = _ := hv
      have hu : u = _ := hu
      subst hv; subst hu
      exact ⟨_, by simp [Builtin.cap_, e1, goInt], rfl⟩
    · exact hu.elim
  · exact hu.elim

theorem toList_zeroCells (z : Array Value) (n : Nat) : (Builtin.zeroCells z n).toList = (madeCells z (n * z.size)).toList := by
  simp [Builtin.zeroCells, madeCells]

theorem step_appZ (hT : TyOk P T) (h : Inv E lk ι w) {dst : Option Tmp} {st xt ty : TypeId} {ats : Array TypeId} (hats : ats.toList = [st, xt]) (hI : isInt T xt = true) {s x : AV} {vs vx : Value} (hs : ARel E (sgOf lk) ι s vs) (hx : ARel E (sgOf lk) ι x vx) {u : Upd} (hu : (evAppZ T dst st s x).gives u)
    (hn : lk (nid dst 0) = none) (hfr : ∀ o a, lk o = some a → nid dst 0 ∉ a.ids) {q : Value → World → Result Next} (hq : ∀ v w, q v w = .ok (.value v) w) :
    ∃ v w', (Builtin.append_ ats ty #[vs, vx]).run P w = .ok v w' ∧ Step E lk ι (q v w') u := by
  obtain rfl : ats = #[st, xt] := by rw [← Array.toArray_toList (xs := ats), hats]
  unfold isInt at hI
  split at hI
  · rename_i ix hix
    obtain ⟨⟨jx, dx, _, _, _, _, _, _, _, hdx, htdx, _⟩, _⟩ := hT.fact hix
    split at hI
    · rename_i kx htd
      obtain rfl := tdOk_int htdx htd
      unfold evAppZ at hu
      split at hu
      · rename_i e ut n hel hxn
        obtain ⟨hd, ei, j, z, hei, hrt, hj, hjs, hjb, hjz, hzc, hzp, hrto⟩ := elemOf_some hT hel
        obtain ⟨kl, rfl⟩ := asInt_rel hxn hx
        have hs : vs = _ := hs
        subst hs
        cases hf : ut.flat with
        | false => rw [hf] at hu; exact hu.elim
        | true =>
        cases hp : Nat.blt 0 ut.sz with
        | false => rw [hf, hp] at hu; exact hu.elim
        | true =>
        rw [hf, hp] at hu
        obtain ⟨⟨h0, h1⟩, hu⟩ := hu
        subst hu
        have hpos : 0 < ut.sz := by rwa [Nat.blt_eq] at hp
        obtain ⟨k, rfl⟩ := Int.eq_ofNat_of_zero_le h0
        have hlb : LB = 4294967296 := rfl
        have hk : k ≤ 4294967296 := by omega
        have hby : k * j.bytes ≤ 4294967296 * 32768 := Nat.mul_le_mul hk hjb
        by_cases hz0 : k = 0
        · subst hz0
          refine ⟨.slice none 0 0, w, ?_, ?_⟩
          · have e1 := run_underlying hd w
            have e2 := run_underlying hdx w
            have e3 : IntKind.i64.wrap (0 : Int) = 0 := by rw [IntKind.wrap_i64]; omega
            have e4 : (Builtin.append_ #[st, xt] ty #[.slice none 0 0, .int kl ((0 : Nat) : Int)]).run P w = .ok (.slice none 0 0) w := by
              simp [Builtin.append_, e1, e2, sizeOf, typeInfo, hj, Go.asInt, asIntOf, e3]
            exact e4
          · refine Step.new (n := nid dst 0) (g := ι.v2 (nid dst 0)) (hq _ _) ?_ own_new
            refine h.new hn hfr ?_ ?_ (fun k _ => rfl) (Nat.le_refl _) rfl rfl rfl
            · show RowRel w _ (nid dst 0) e ut _
              rw [rowRel_flat hf, (put_same ι _ _ _).1]
              exact World.ownsRow_nil w 0 e ut.sz
            · intro q hq
              simp only [fp, flat_isIn hf, (put_same ι _ _ _).1] at hq
              rcases hq with hq | ⟨hq, _⟩
              · simp [Value.ownBlock] at hq
              · cases hq
        · have hzs : z.cells.size = ut.sz := by
            rw [← hjs, hjs, ← rt_zero hrto hrt]
            have := congrArg List.length hzc
            simpa using this
          have hr := Lib.run_append_nil_zeros (P := P) w st xt ty e j z kl _ hd hdx hj hjz k (by omega) (by omega) (by omega) (by omega)
          refine ⟨_, _, hr, Step.new (n := nid dst 0) (g := ι.v2 (nid dst 0)) (hq _ _) ?_ own_new⟩
          have hge := grownCap_ge w k 0 e
          have hml : maxLen = 9223372036854775807 := rfl
          have hcm : grownCap w k 0 e ≤ maxLen := grownCap_le_maxLen w k 0 e (by omega)
          have hcells : (Builtin.zeroCells z.cells k).toList = flatV ut (List.replicate k ut.zero) := by
            rw [toList_zeroCells, hzs, madeCells_flat hf (rt_zero_vals hrto hrt hf hzc)]
          have hlen : (flatV ut (List.replicate k ut.zero)).length = k * ut.sz := by rw [flatV_len ut _ hf]; simp
          have ho : (w.drew.alloc (.cells (Builtin.zeroCells z.cells k ++ Builtin.zeroCells z.cells (grownCap w k 0 e - k)) e)).ownsRow 0 e ut.sz (.slice (some ⟨w.heap.size, 0, none⟩) (List.replicate k ut.zero).length (grownCap w k 0 e)) (List.replicate k ut.zero).length (flatV ut (List.replicate k ut.zero)) := by
            rw [List.length_replicate]
            refine ⟨hlen, .inr ⟨w.heap.size, _, _, rfl, Nat.zero_le _, heap_alloc_new w.drew _, hge, hcm, ?_, ?_⟩⟩
            · simp only [Array.size_append, size_zeroCells, hzs, ← Nat.add_mul]
              congr 1
              omega
            · rw [Array.toList_append, hcells, ← hlen]
              exact List.take_left
          have hg : w.grownBy (w.drew.alloc (.cells (Builtin.zeroCells z.cells k ++ Builtin.zeroCells z.cells (grownCap w k 0 e - k)) e)) none := ⟨rfl, rfl, rfl, by simp, fun k hk _ => heap_alloc_old w.drew _ k hk⟩
          have := new_row h hn hfr hf ho hg
          simpa using this
      · exact hu.elim
    · cases hI
  · cases hI

theorem step_cut (hT : TyOk P T) (h : Inv E lk ι w) (hsub : ∀ o a, lk0 o = some a → lk o = some a) {dst : Option Tmp} {t : TypeId} {x hi : AV} {v vh : Value} (hv : ARel E (sgOf lk) ι x v) (hh : ARel E (sgOf lk) ι hi vh) {u : Upd} (hu : (evCut T lk0 dst t x hi).gives u)
    (hn : lk (nid dst 0) = none) (hfr : ∀ o a, lk o = some a → nid dst 0 ∉ a.ids) :
    Step E lk ι ((do pure (Next.value (← Instr.sliceAt t v none (some vh) none)) : Sem Next).run P w) u := by
  unfold evCut at hu
  split at hu
  · rename_i i o k hi' hk
    obtain ⟨⟨j, d, z, hj, hjs, _, _, _, _, hd, htd', hag⟩, hrt⟩ := hT.fact hi'
    split at hu
    · rename_i e e' ut xs htd ho
      obtain rfl := tdOk_slice htd' htd
      have ho' := hsub _ _ ho
      cases hz : szIs T e ut.sz with
      | false => rw [hz] at hu; exact hu.elim
      | true =>
      cases hf : ut.flat with
      | false => rw [hz, hf] at hu; exact hu.elim
      | true =>
      rw [hz, hf] at hu
      obtain ⟨⟨h0, h1⟩, hu⟩ := hu
      subst hu
      unfold szIs at hz
      split at hz
      · rename_i ei hei
        obtain ⟨⟨je, _, _, hje, hjes, _⟩, _⟩ := hT.fact hei
        have hvv := hv ut xs.length (lens ut xs) (by simp [sgOf, ho', sig])
        have hob : RowRel w ι o e' ut xs := h.ob o _ ho'
        have hown := (rowRel_flat hf).1 hob
        rw [← hvv] at hown
        obtain ⟨A, m, hA, hm⟩ := owns_slice hown
        rw [hA] at hown
        have b2 : BndIs E (sgOf lk) ι (some hi) (some vh) k (xs.length : Int) := opt_bound (lo := some hi) hk hh
        have b1 : BndIs E (sgOf lk) ι none none 0 0 := (rfl : (0 : Int) = 0)
        have hb := run_bounds (P := P) (w := w) (isS := true) (cap := m) b1 b2 (Int.le_refl _) h0 h1 hm.1
        have e1 := run_underlying hd w
        have e2 := run_size hje w
        have hlen : (xs.take k.toNat).length = k.toNat := by simp; omega
        refine Step.take (n := nid dst 0) (v := .slice A k.toNat m) (g := ι.v2 (nid dst 0)) (w' := w) (v_run ?_) ?_ own_taken
        · have hadd : ∀ a : Addr, a.add 0 = a := by intro a; cases a; unfold Addr.add; split <;> simp_all
          have hmap : A.map (fun a => a.add 0) = A := by cases A <;> simp [hadd]
          simp [Instr.sliceAt, Instr.slice, hA, e1, hb, e2, hmap]
        · refine h.take hn hfr ?_ ?_ (fun _ _ _ => rfl) (Nat.le_refl _) rfl rfl rfl
          · show RowRel w _ (nid dst 0) e' ut _
            rw [rowRel_flat hf, (put_same ι _ _ _).1, hlen]
            have hl : (flatV ut (xs.take k.toNat)).length = k.toNat * ut.sz := by rw [flatV_len ut _ hf, hlen]
            refine ⟨hl, ?_⟩
            rcases hown.2 with ⟨hnil, hlz⟩ | ⟨g, cap, cur, hsl, hb', hg, hnc, hcm, hcs, htk⟩
            · injection hnil with e3 e4 e5
              subst e3; subst e5
              exact .inl ⟨by congr 1; omega, by omega⟩
            · injection hsl with e3 e4 e5
              subst e3; subst e5
              refine .inr ⟨g, m, cur, rfl, hb', hg, by omega, hcm, hcs, ?_⟩
              have : (cur.toList.take (xs.length * ut.sz)).take (k.toNat * ut.sz) = (flatV ut xs).take (k.toNat * ut.sz) := by rw [htk]
              rw [List.take_take, Nat.min_eq_left (Nat.mul_le_mul_right _ (by omega))] at this
              rw [this]
              conv => lhs; rw [← List.take_append_drop k.toNat xs]
              rw [flatV_append, ← hl]
              exact List.take_left
          · intro q hq
            simp only [fp, flat_isIn hf, (put_same ι _ _ _).1] at hq
            rcases hq with hq | ⟨hq, _⟩
            · have hfo : fp ι o (.rows e' ut xs) q := by
                refine .inl ?_
                rw [← hvv, hA]
                cases A with
                | none => simp [Value.ownBlock] at hq
                | some a => simpa [Value.ownBlock] using hq
              exact ⟨(h.bd o _ q ho' hfo).1, .inl ⟨o, _, by simp, ho', hfo⟩⟩
            · cases hq
      · cases hz
    · exact hu.elim
  · exact hu.elim

/-- A call of a value, and no builtin. -/
def callsVal : Op → Bool
  | .call c => match c.callee with
    | .value _ => true
    | _ => false
  | _ => false

theorem optR_map {ρ : Operand → AV} {a : Operand → Value} (hρ : ∀ x, ARel E sg ι (ρ x) (a x)) (x : Option Operand) : OptR E sg ι (x.map ρ) (x.map a) := by
  cases x with
  | none => trivial
  | some x => exact hρ x

theorem caps_of {ρ : Operand → AV} {a : Operand → Value} (hρ : ∀ x, ARel E sg ι (ρ x) (a x)) : ∀ (l : List Operand) {cs : List Nat}, ((l.map ρ).mapM fun | .c (.leaf (.ptr p 0)) => some p | _ => none) = some cs →
    (∀ o ∈ cs, sg o = some .cells) → l.map a = cs.map ι.v
  | [], cs, h, _ => by
    simp at h
    subst h
    rfl
  | x :: l, cs, h, hs => by
    rw [List.map_cons, List.mapM_cons] at h
    obtain ⟨p, hp, h⟩ := Option.bind_eq_some_iff.1 h
    obtain ⟨ps, hps, h⟩ := Option.bind_eq_some_iff.1 h
    injection h with h
    subst h
    have ih := caps_of hρ l hps fun o ho => hs o (by simp [ho])
    have hx := hρ x
    split at hp
    · rename_i q hq
      injection hp with hp
      subst hp
      rw [hq] at hx
      obtain ⟨g, h1, h2⟩ := hx (hs q (by simp))
      rw [List.map_cons, List.map_cons, ih, h1, h2]
    · cases hp

theorem map_pair {α β : Type} (f : α → β) {ps : Array (Nat × α)} : (ps.map fun (i, x) => (i, f x)) = ps.map fun p => (p.1, f p.2) := rfl

theorem arr2 {α : Type} {xs : Array α} {a b : α} (h : xs.toList = [a, b]) : xs = #[a, b] := by rw [← Array.toArray_toList (xs := xs), h]
theorem arr1 {α : Type} {xs : Array α} {a : α} (h : xs.toList = [a]) : xs = #[a] := by rw [← Array.toArray_toList (xs := xs), h]

theorem step_min {x y : AV} {k l : IntKind} {m n : Int} {vx vy : Value} (hx : x = .c (.leaf (.int k m))) (hy : y = .c (.leaf (.int l n))) (h1 : ARel E sg ι x vx) (h2 : ARel E sg ι y vy) (ats : Array TypeId) (ty : TypeId) :
    (Builtin.min_ ats ty #[vx, vy]).run P w = .ok (.int k (if n < m then n else m)) w := by
  subst hx; subst hy
  have h1 : vx = _ := h1
  have h2 : vy = _ := h2
  subst h1; subst h2
  simp [Builtin.min_, Builtin.min2]

theorem buildSlice_new {dst : Option Tmp} {t : TypeId} {n : Nat} {ps : List (Nat × AV)} {u : Upd} : (evBuildSlice T lk0 dst t n ps).gives u → ∃ p r, u.new = p :: r ∧ p.1 = nid dst 0 := by
  unfold evBuildSlice
  split
  · split
    · split
      · intro hu; have hu : u = _ := hu; subst hu; exact ⟨_, _, rfl, rfl⟩
      · intro hu; exact hu.elim
    · split
      · rename_i l _
        cases (Nat.ble n 4096 && l.all (LV.solid lk0)) with
        | false => intro hu; exact hu.elim
        | true => intro hu; have hu : u = _ := hu; subst hu; exact ⟨_, _, rfl, rfl⟩
      · intro hu; exact hu.elim
  · rename_i e v _ _
    cases (v.flat && Nat.ble n 4096 && Nat.ble (n * v.sz) 16777216) with
    | false => intro hu; exact hu.elim
    | true =>
      dsimp only [cond_true]
      split
      · intro hu; have hu : u = _ := hu; subst hu; exact ⟨_, _, rfl, rfl⟩
      · intro hu; exact hu.elim
  · intro hu; exact hu.elim

theorem step_op (hT : TyOk P T) (hE : EqOk P T) (h : Inv E lk ι w) (hsub : ∀ o a, lk0 o = some a → lk o = some a) {ρ : Operand → AV} {a : Operand → Value} (hρ : ∀ x, ARel E (sgOf lk) ι (ρ x) (a x))
    {o : Oper} (hc : callsVal o.op = false) {u : Upd} (hu : (evCore T ρ lk0 o).gives u)
    (hn : ∀ p ∈ u.new, lk p.1 = none ∧ (∀ q b, lk q = some b → p.1 ∉ b.ids) ∧ ∀ x, p.1 ∉ (ρ x).ids) :
    Step E lk ι ((execOp a o).run P w) u := by
  obtain ⟨dst, op, type, pos, after, guard⟩ := o
  unfold evCore at hu
  dsimp only at hu hc
  cases op
  case move x =>
    have hu : u = _ := hu
    subst hu
    exact Step.pure h (v := a x) (by simp [execOp]) (hρ x)
  case assign x =>
    have hu : u = _ := hu
    subst hu
    exact Step.pure h (v := a x) (by simp [execOp]) (hρ x)
  case pick c x y =>
    dsimp only at hu
    split at hu
    · rename_i t ht
      have hc := hρ c
      rw [ht] at hc
      have hc : a c = .bool t := hc
      have hu : u = _ := hu
      subst hu
      cases t with
      | true => exact Step.pure h (v := a x) (by simp [execOp, hc, asBool]) (hρ x)
      | false => exact Step.pure h (v := a y) (by simp [execOp, hc, asBool]) (hρ y)
    · exact hu.elim
  case alloc e =>
    dsimp only at hu
    split at hu
    · rename_i i hi
      have hu : u = _ := hu
      subst hu
      obtain ⟨h1, h2, _⟩ := hn _ (List.mem_singleton.2 rfl)
      exact step_alloc hT h hi h1 h2
    · exact hu.elim
  case box e x =>
    dsimp only at hu
    split at hu
    · rename_i i l hi hl
      cases hb : Nat.beq l.length i.size && l.all (LV.solid lk0) with
      | false => rw [hb] at hu; exact hu.elim
      | true =>
        rw [hb] at hu
        have hu : u = _ := hu
        subst hu
        simp only [Bool.and_eq_true] at hb
        obtain ⟨h1, h2, h3⟩ := hn _ (List.mem_singleton.2 rfl)
        refine step_box h hsub hl hb.2 (hρ x) h1 h2 ?_
        have h3 := h3 x
        intro hm
        apply h3
        cases hx : ρ x with
        | tup l' => rw [hx] at hl; cases hl
        | c y =>
          rw [hx] at hl
          cases y with
          | leaf y =>
            simp [AV.cells?] at hl
            subst hl
            simpa [AV.ids, CV.ids] using hm
          | agg l' =>
            simp [AV.cells?] at hl
            subst hl
            simpa [AV.ids, CV.ids] using hm
    · exact hu.elim
  case build t ps =>
    obtain ⟨y, hy, rfl⟩ := gives_map hu
    exact Step.val h (step_build hT h hsub hρ hy)
  case buildSlice t n ps =>
    have hu : (evBuildSlice T lk0 dst t n (ps.toList.map fun p => (p.1, ρ p.2))).gives u := hu
    obtain ⟨p, r, hp, hp1⟩ := buildSlice_new hu
    obtain ⟨h1, h2, _⟩ := hn p (by rw [hp]; simp)
    rw [hp1] at h1 h2
    exact step_buildSlice hT h hsub hρ hu h1 h2
  case load t x =>
    obtain ⟨y, hy, rfl⟩ := gives_map hu
    exact Step.val h (step_load hT h hsub (hρ x) hy)
  case store t x y => exact step_store hT h hsub (hρ x) (hρ y) hu
  case nilCheck x =>
    dsimp only at hu
    have hx := hρ x
    split at hu
    · rename_i f cs hf
      rw [hf] at hx
      cases hb : (LV.fn f cs).solid lk0 with
      | false => rw [hb] at hu; exact hu.elim
      | true =>
        rw [hb] at hu
        have hu : u = _ := hu
        subst hu
        have hv : a x = _ := hx (by
          intro o ho
          have hb := List.all_eq_true.1 hb o ho
          split at hb
          · rename_i t vs hl
            simp [sgOf, hsub _ _ hl, sig]
          · cases hb)
        exact Step.pure h (v := a x) (by simp [execOp, hv]) hx
    · rename_i p _ hp
      rw [hp] at hx
      cases hb : ptrOk lk0 p with
      | false => rw [hb] at hu; exact hu.elim
      | true =>
        rw [hb] at hu
        have hu : u = _ := hu
        subst hu
        obtain ⟨ad, hv⟩ := ptr_val hsub hb hx
        exact Step.pure h (v := a x) (by simp [execOp, hv]) hx
    · exact hu.elim
  case binOp op t x y n =>
    obtain ⟨z, hz, rfl⟩ := gives_map hu
    exact Step.val h (step_eq hE hT (hρ x) (hρ y) hz)
  case unOp op t x =>
    dsimp only at hu
    have hx := hρ x
    split at hu
    · rename_i v hv
      rw [hv] at hx
      obtain ⟨z, hz, rfl⟩ := gives_map hu
      exact Step.val h (step_un hx hz)
    · exact hu.elim
  case convert s d x =>
    dsimp only at hu
    have hx := hρ x
    split at hu
    · rename_i si di v hs hd hv
      rw [hv] at hx
      obtain ⟨z, hz, rfl⟩ := gives_map hu
      exact Step.val h (step_conv hT h hsub hs hd hx hz)
    · exact hu.elim
  case makeFunc fn first caps =>
    cases fn with
    | func f =>
      dsimp only at hu
      cases hb : Nat.beq first.size 0 with
      | false => rw [hb] at hu; exact hu.elim
      | true =>
        rw [hb] at hu
        dsimp only [cond_true] at hu
        split at hu
        · rename_i cs hcs
          have hu : u = _ := hu
          subst hu
          have hf : first = #[] := Array.eq_empty_of_size_eq_zero (Nat.eq_of_beq_eq_true hb)
          subst hf
          refine Step.pure h (v := .func (.func f) #[] (caps.map a)) (by simp [execOp, Instr.makeFunc]) ?_
          intro hs
          have := caps_of hρ caps.toList hcs hs
          have e : caps.map a = (cs.map ι.v).toArray := by
            rw [← this]
            apply Array.toList_inj.1
            simp
          rw [e]
        · exact hu.elim
    | _ => exact hu.elim
  case makeMap t r =>
    cases r with
    | some r => exact hu.elim
    | none =>
      have hu : u = _ := hu
      subst hu
      obtain ⟨h1, h2, _⟩ := hn _ (List.mem_singleton.2 rfl)
      exact step_makeMap h h1 h2
  case makeSlice t l c =>
    have hu : (evMakeSlice T dst t (ρ l) (ρ c)).gives u := hu
    have key : ∃ p r, u.new = p :: r ∧ p.1 = nid dst 0 := by
      revert hu
      unfold evMakeSlice
      split
      · rename_i e u' n m _ _ _
        cases u'.flat with
        | true => intro hu; rw [hu.2]; exact ⟨_, _, rfl, rfl⟩
        | false => intro hu; rw [hu.2]; exact ⟨_, _, rfl, rfl⟩
      · intro hu; exact hu.elim
    obtain ⟨p, r, hp, hp1⟩ := key
    obtain ⟨h1, h2, _⟩ := hn p (by rw [hp]; simp)
    rw [hp1] at h1 h2
    exact step_makeSlice hT h (hρ l) (hρ c) hu h1 h2
  case slice t x lo hi mx =>
    dsimp only at hu
    split at hu
    · rename_i h1 hcut
      have key : ∃ p r, u.new = p :: r ∧ p.1 = nid dst 0 := by
        revert hu
        unfold evCut
        split
        · split
          · rename_i e e' u' xs _ _
            cases (szIs T e u'.sz && u'.flat) with
            | true => intro hu; rw [hu.2]; exact ⟨_, _, rfl, rfl⟩
            | false => intro hu; exact hu.elim
          · intro hu; exact hu.elim
        · intro hu; exact hu.elim
      obtain ⟨p, r, hp, hp1⟩ := key
      obtain ⟨h2, h3, _⟩ := hn p (by rw [hp]; simp)
      rw [hp1] at h2 h3
      exact step_cut hT h hsub (hρ x) (hρ h1) hu h2 h3
    · obtain ⟨z, hz, rfl⟩ := gives_map hu
      exact Step.val h (step_slice hT h hsub (hρ x) (optR_map hρ _) (optR_map hρ _) (fun hm => Option.map_eq_none_iff.2 (Option.map_eq_none_iff.1 hm)) hz)
  case fieldAddr t x k =>
    dsimp only at hu
    have hx := hρ x
    split at hu
    · rename_i i p hi hp
      rw [hp] at hx
      split at hu
      · rename_i fs hfs
        split at hu
        · rename_i off n b hf
          cases hb : (Nat.beq n 0 || !(ptrOk lk0 p)) with
          | true => rw [hb] at hu; exact hu.elim
          | false =>
            rw [hb] at hu
            dsimp only [cond_false] at hu
            split at hu
            · rename_i q hq
              have hu : u = _ := hu
              subst hu
              exact Step.val h (step_fieldAddr hT hsub hi hfs hf hb hq hx)
            · exact hu.elim
        · exact hu.elim
      · exact hu.elim
    · exact hu.elim
  case field t x k =>
    dsimp only at hu
    have hx := hρ x
    split at hu
    · rename_i i l hi hl
      rw [hl] at hx
      split at hu
      · rename_i fs hfs
        split at hu
        · rename_i off n b hf
          split at hu
          · rename_i l' hl'
            have hp : ∃ y, u = Upd.pure y := by
              cases b with
              | true => exact ⟨_, hu⟩
              | false =>
                dsimp only [cond_false] at hu
                split at hu
                · exact ⟨_, hu⟩
                · exact hu.elim
            obtain ⟨y, rfl⟩ := hp
            refine Step.val h (step_field hT hi hfs hf hl' hx (u := y) ?_)
            cases b with
            | true => exact hu
            | false =>
              dsimp only [cond_false] at hu ⊢
              split at hu
              · exact hu
              · exact hu.elim
          · exact hu.elim
        · exact hu.elim
      · exact hu.elim
    · exact hu.elim
  case indexAddr t x ix =>
    obtain ⟨z, hz, rfl⟩ := gives_map hu
    exact Step.val h (step_indexAddr hT h hsub (hρ x) (hρ ix) hz)
  case index t x ix =>
    dsimp only at hu
    have hx := hρ x
    split at hu
    · rename_i i s n hi hs hn'
      rw [hs] at hx
      split at hu
      · rename_i htd
        obtain ⟨⟨h0, h1⟩, rfl⟩ := hu
        exact Step.val h ⟨_, step_index hT hi htd hn' hx (hρ ix) h0 h1, rfl⟩
      · exact hu.elim
    · exact hu.elim
  case lookup t m k ok =>
    cases ok with
    | true => exact hu.elim
    | false =>
      dsimp only at hu
      have hm := hρ m
      have hk := hρ k
      split at hu
      · rename_i i p n hi hp hn'
        rw [hp] at hm
        rw [hn'] at hk
        have hk : a k = .int .i64 n := hk
        split at hu
        · rename_i es htd hes
          have hu : u = _ := hu
          subst hu
          refine Step.val h ⟨_, ?_, rfl⟩
          rw [hk]
          exact step_lookup hT h hi htd (hsub _ _ hes) hm
        · exact hu.elim
      · exact hu.elim
  case mapUpdate t m k v =>
    dsimp only at hu
    have hm := hρ m
    have hk := hρ k
    have hv := hρ v
    split at hu
    · rename_i i p n hi hp hn' hv'
      rw [hp] at hm
      rw [hn'] at hk
      rw [hv'] at hv
      have hk : a k = .int .i64 n := hk
      have hv : a v = .bool true := hv
      split at hu
      · rename_i es htd hes
        have hu : u = _ := hu
        subst hu
        have := step_mapUpdate (P := P) (b := true) hT h hi htd (hsub _ _ hes) hm (n := n)
        simpa [execOp, hk, hv] using this
      · exact hu.elim
    · exact hu.elim
  case extract x k =>
    dsimp only at hu
    have hx := hρ x
    split at hu
    · rename_i l hl
      rw [hl] at hx
      split at hu
      · rename_i y hy
        have hu : u = _ := hu
        subst hu
        obtain ⟨vs, hvs, hr⟩ := hx
        obtain ⟨z, hz, hyz⟩ := hr.get hy
        refine Step.val h ⟨z, ?_, hyz⟩
        have hz : vs[k]? = some z := by simpa using hz
        simp [Instr.extract, hvs, hz]
      · exact hu.elim
    · exact hu.elim
  case call c =>
    obtain ⟨callee, args, argTypes⟩ := c
    cases callee with
    | value f => cases hc
    | invoke r n => exact hu.elim
    | builtin b =>
      dsimp only at hu
      have hex : execOp a ⟨dst, .call ⟨.builtin b, args, argTypes⟩, type, pos, after, guard⟩ = builtin b argTypes type (args.map fun | .const _ => true | _ => false) (args.map a) := by
        simp [execOp, resolve, invoke]
        rfl
      rw [hex]
      split at hu
      · rename_i s x ts tx hargs hats
        rw [arr2 hargs]
        have hu : (bif isInt T tx then evAppZ T dst ts (ρ s) (ρ x) else evAppend T lk0 dst ts tx (ρ s) (ρ x)).gives u := hu
        cases hI : isInt T tx with
        | true =>
          rw [hI] at hu
          have hu : (evAppZ T dst ts (ρ s) (ρ x)).gives u := hu
          have key : ∃ p r, u.new = p :: r ∧ p.1 = nid dst 0 := by
            revert hu
            unfold evAppZ
            split
            · rename_i e v n _ _ _
              cases (v.flat && Nat.blt 0 v.sz) with
              | true => intro hu; rw [hu.2]; exact ⟨_, _, rfl, rfl⟩
              | false => intro hu; exact hu.elim
            · intro hu; exact hu.elim
          obtain ⟨p, r, hp, hp1⟩ := key
          obtain ⟨h1, h2, _⟩ := hn p (by rw [hp]; simp)
          rw [hp1] at h1 h2
          obtain ⟨v, w', hrun, hst⟩ := step_appZ (P := P) (ty := type) hT h hats hI (hρ s) (hρ x) hu h1 h2 (q := fun v w => .ok (.value v) w) (fun _ _ => rfl)
          have : (builtin .append argTypes type (#[s, x].map fun | .const _ => true | _ => false) (#[s, x].map a)).run P w = .ok (.value v) w' := v_run (by simpa using hrun)
          rw [this]
          exact hst
        | false =>
        rw [hI] at hu
        have hu : (evAppend T lk0 dst ts tx (ρ s) (ρ x)).gives u := hu
        have key : ∃ p r, u.new = p :: r ∧ p.1 = nid dst 0 := by
          revert hu
          unfold evAppend
          split
          · split
            · rename_i ys ds zs bs _ _
              cases (Nat.beq ts tx && !(ds.any fun d => bs.any (Nat.beq d)) && Nat.blt 0 _) with
              | true => intro hu; rw [hu.2]; exact ⟨_, _, rfl, rfl⟩
              | false => intro hu; exact hu.elim
            · intro hu; exact hu.elim
          · intro hu; exact hu.elim
        obtain ⟨p, r, hp, hp1⟩ := key
        obtain ⟨h1, h2, _⟩ := hn p (by rw [hp]; simp)
        rw [hp1] at h1 h2
        obtain ⟨v, w', hrun, hst⟩ := step_append (P := P) (ty := type) hT h hsub hats (hρ s) (hρ x) hu h1 h2 (q := fun v w => .ok (.value v) w) (fun _ _ => rfl)
        have : (builtin .append argTypes type (#[s, x].map fun | .const _ => true | _ => false) (#[s, x].map a)).run P w = .ok (.value v) w' := v_run (by simpa using hrun)
        rw [this]
        exact hst
      · rename_i x tx hargs hats
        rw [arr1 hargs]
        obtain ⟨z, hz, rfl⟩ := gives_map hu
        obtain ⟨y, hy, hr⟩ := step_cap (P := P) (w := w) (ty := type) hT hats (hρ x) hz
        exact Step.val h ⟨y, by simpa using hy, hr⟩
      · rename_i x tx hargs hats
        rw [arr1 hargs]
        obtain ⟨z, hz, rfl⟩ := gives_map hu
        obtain ⟨y, hy, hr⟩ := step_len (P := P) (ty := type) hT h hsub hats (hρ x) hz
        exact Step.val h ⟨y, by simpa using hy, hr⟩
      · rename_i x y hargs
        rw [arr2 hargs]
        split at hu
        · rename_i k m k' n hx hy
          have hu : u = _ := hu
          subst hu
          exact Step.val h ⟨_, by simpa using step_min hx hy (hρ x) (hρ y) argTypes type, rfl⟩
        · exact hu.elim
      · exact hu.elim
  all_goals exact hu.elim
end

end Go.Proofs.Ytiooamodldgalaa.Abs
