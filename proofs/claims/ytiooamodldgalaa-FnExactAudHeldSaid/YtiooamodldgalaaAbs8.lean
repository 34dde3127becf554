/-
One operation that is no call, part four: slicing, lengths, struct values, conversions, equality of structs.
-/
import Derived.Test.YtiooamodldgalaaAbs7
import Derived.Laws.Slices
namespace Go.Proofs.Ytiooamodldgalaa.Abs
open Go

section
variable {E : Ctx} {lk lk0 : Nat → Option AO} {ι : Im} {w w' : World} {P : Program} {T : Env} {sg : Nat → Option Sig}

theorem run_bound {v : Value} {k : IntKind} {n : Int} {y : Nat} {code : BoundsCode} (hv : v = .int k n) (h0 : 0 ≤ n) (h1 : n ≤ y) : (Instr.sliceBound v y code).run P w = .ok n.toNat w := by
  subst hv
  simp [Instr.sliceBound, asIntOf, h0, h1]

def OptR (E : Ctx) (sg : Nat → Option Sig) (ι : Im) : Option AV → Option Value → Prop
  | none, none => True
  | some x, some v => ARel E sg ι x v
  | _, _ => False
def BndIs (E : Ctx) (sg : Nat → Option Sig) (ι : Im) (x : Option AV) (v : Option Value) (l d : Int) : Prop :=
  match x, v with
  | none, none => l = d
  | some x, some v => asInt x = some l ∧ ARel E sg ι x v
  | _, _ => False

/-- The two bounds of a slice expression, where both are known. -/
theorem run_bounds {isS : Bool} {len cap : Nat} {lo hi : Option AV} {vlo vhi : Option Value} {l h : Int}
    (hlo : BndIs E sg ι lo vlo l 0) (hhi : BndIs E sg ι hi vhi h len)
    (h0 : 0 ≤ l) (h1 : l ≤ h) (h2 : h ≤ len) (h3 : len ≤ cap) : (Instr.sliceBounds isS len cap vlo vhi none).run P w = .ok (l.toNat, h.toNat, cap) w := by
  cases hi with
  | none =>
    cases vhi with
    | some v => exact hhi.elim
    | none =>
      have hhi : h = len := hhi
      subst hhi
      cases lo with
      | none =>
        cases vlo with
        | some v => exact hlo.elim
        | none =>
          have hlo : l = 0 := hlo
          subst hlo
          simp [Instr.sliceBounds]
      | some x =>
        cases vlo with
        | none => exact hlo.elim
        | some v =>
          obtain ⟨k, hk⟩ := asInt_rel hlo.1 hlo.2
          have hb := run_bound (P := P) (w := w) (code := .sliceB) hk h0 (y := len) h1
          simp [Instr.sliceBounds, hb]
  | some xh =>
    cases vhi with
    | none => exact hhi.elim
    | some vh =>
      obtain ⟨kh, hkh⟩ := asInt_rel hhi.1 hhi.2
      have hb2 := fun code => run_bound (P := P) (w := w) (code := code) hkh (by omega) (y := cap) (by omega)
      cases lo with
      | none =>
        cases vlo with
        | some v => exact hlo.elim
        | none =>
          have hlo : l = 0 := hlo
          subst hlo
          simp [Instr.sliceBounds, hb2]
      | some x =>
        cases vlo with
        | none => exact hlo.elim
        | some v =>
          obtain ⟨k, hk⟩ := asInt_rel hlo.1 hlo.2
          have hb := run_bound (P := P) (w := w) (code := .sliceB) hk h0 (y := h.toNat) (by omega)
          simp [Instr.sliceBounds, hb, hb2]

theorem opt_bound {lo : Option AV} {vlo : Option Value} {l d : Int} (hl : bnd lo d = some l) (hr : OptR E sg ι lo vlo) : BndIs E sg ι lo vlo l d := by
  cases lo with
  | none =>
    cases vlo with
    | none => simp [bnd] at hl; exact hl.symm
    | some v => exact hr
  | some x =>
    cases vlo with
    | none => exact hr
    | some v => exact ⟨hl, hr⟩

theorem SS_cut {a : RT} {A : Option Addr} {xs : List (El a)} (h : SS E (SV E a) a.sz A xs) (l n : Nat) (m : Nat) (hm : xs.length ≤ m) (hl : l ≤ xs.length) :
    SS E (SV E a) a.sz (if m = l then A else A.map (·.add (l * a.sz))) ((xs.take n).drop l) := by
  refine ⟨?_, fun hp => ?_⟩
  · have := h.1
    simp
    omega
  · have hlt : l < xs.length := by simp at hp; omega
    obtain ⟨ad, rfl, hS, hel⟩ := h.2 (by omega)
    rw [if_neg (by omega)]
    refine ⟨ad.add (l * a.sz), rfl, by rw [add_block]; exact hS, fun j x hx => ?_⟩
    have hx' : xs[l + j]? = some x := by
      rw [List.getElem?_drop, List.getElem?_take] at hx
      split at hx
      · exact hx
      · cases hx
    obtain ⟨c, hc, hsv, hcell⟩ := hel _ x hx'
    refine ⟨c, hc, hsv, fun i u hu => ?_⟩
    rw [add_add, ← Nat.add_assoc, ← Nat.add_mul]
    exact hcell i u hu

theorem step_slice (hT : TyOk P T) (h : Inv E lk ι w) (hsub : ∀ o a, lk0 o = some a → lk o = some a) {t : TypeId} {x : AV} {lo hi mx : Option AV} {v : Value} {vlo vhi vmx : Option Value} (hv : ARel E (sgOf lk) ι x v)
    (hlo : OptR E (sgOf lk) ι lo vlo) (hhi : OptR E (sgOf lk) ι hi vhi)
    (hmx : mx = none → vmx = none) {u : AV} (hu : (evSlice T lk0 t x lo hi mx).gives u) :
    ∃ z, (Instr.sliceAt t v vlo vhi vmx).run P w = .ok z w ∧ ARel E (sgOf lk) ι u z := by
  unfold evSlice at hu
  split at hu
  · rename_i i p hi'
    obtain rfl := hmx rfl
    obtain ⟨⟨j, d, z, hj, hjs, _, _, _, _, hd, htd', hag⟩, hrt⟩ := hT.fact hi'
    split at hu
    · -- a string
      rename_i s htd
      obtain rfl := tdOk_str htd' htd
      split at hu
      · rename_i l hh el eh
        obtain ⟨⟨h0, h1, h2⟩, hu⟩ := hu
        subst hu
        have hv : v = _ := hv
        subst hv
        have b1 := opt_bound el hlo
        have b2 := opt_bound eh hhi
        have hb := run_bounds (P := P) (w := w) (isS := false) b1 b2 h0 h1 h2 (Nat.le_refl _)
        refine ⟨_, ?_, rfl⟩
        have e1 := run_underlying hd w
        simp [Instr.sliceAt, Instr.slice, e1, hb]
      · exact hu.elim
    · -- a slice that is read
      rename_i e u' xs htd
      obtain rfl := tdOk_slice htd' htd
      split at hu
      · rename_i l hh el eh
        cases hz : szIs T e u'.sz with
        | false => rw [hz] at hu; exact hu.elim
        | true =>
          rw [hz] at hu
          unfold szIs at hz
          split at hz
          · rename_i ei hei
            obtain ⟨⟨je, _, _, hje, hjes, _⟩, _⟩ := hT.fact hei
            have hsz := Nat.eq_of_beq_eq_true hz
            obtain ⟨⟨h0, h1, h2⟩, hu⟩ := hu
            subst hu
            obtain ⟨A, m, rfl, hm, hss⟩ := hv
            have b1 := opt_bound el hlo
            have b2 := opt_bound eh hhi
            have hb := run_bounds (P := P) (w := w) (isS := true) (cap := m) b1 b2 h0 h1 h2 hm
            have e1 := run_underlying hd w
            have e2 := run_size hje w
            refine ⟨.slice (if m = l.toNat then A else A.map (·.add (l.toNat * je.size))) (hh.toNat - l.toNat) (m - l.toNat), ?_, ?_⟩
            · simp [Instr.sliceAt, Instr.slice, e1, hb, e2]
            · have hcut := SS_cut hss l.toNat hh.toNat m hm (by omega)
              have hlen : ((xs.take hh.toNat).drop l.toNat).length = hh.toNat - l.toNat := by simp; omega
              refine ⟨if m = l.toNat then A else A.map (·.add (l.toNat * u'.sz)), m - l.toNat, ?_, by omega, hcut⟩
              rw [hjes, hsz, hlen]
          · cases hz
      · exact hu.elim
    · -- one's own
      rename_i e o htd
      obtain rfl := tdOk_slice htd' htd
      split at hu
      · rename_i e' u' xs ho
        have ho' := hsub _ _ ho
        split at hu
        · rename_i l hh el eh
          cases hz : szIs T e u'.sz with
          | false => rw [hz] at hu; exact hu.elim
          | true =>
            rw [hz] at hu
            unfold szIs at hz
            split at hz
            · rename_i ei hei
              obtain ⟨⟨je, _, _, hje, hjes, _⟩, _⟩ := hT.fact hei
              have hsz := Nat.eq_of_beq_eq_true hz
              obtain ⟨⟨h0, h1, h2⟩, hu⟩ := hu
              subst hu
              have hv' : v = ι.v o := hv u' xs.length (lens u' xs) (by simp [sgOf, ho', sig])
              have hob : RowRel w ι o e' u' xs := h.ob o _ ho'
              obtain ⟨cs, hcs⟩ := hob.owns
              obtain ⟨A, m, hA, hm, _⟩ := owns_slice hcs
              rw [hA] at hv'
              subst hv'
              have b1 := opt_bound el hlo
              have b2 := opt_bound eh hhi
              have hb := run_bounds (P := P) (w := w) (isS := true) (cap := m) b1 b2 h0 h1 h2 hm
              have e1 := run_underlying hd w
              have e2 := run_size hje w
              refine ⟨.slice (if m = l.toNat then A else A.map (·.add (l.toNat * je.size))) (hh.toNat - l.toNat) (m - l.toNat), ?_, ?_⟩
              · simp [Instr.sliceAt, Instr.slice, e1, hb, e2]
              · intro t2 n2 ls2 hs
                simp [sgOf, ho', sig] at hs
                obtain ⟨rfl, rfl, _⟩ := hs
                exact ⟨by omega, by omega, A, _, m, hA, by rw [hjes, hsz]⟩
            · cases hz
        · exact hu.elim
      · exact hu.elim
    · -- nil
      rename_i e htd
      obtain rfl := tdOk_slice htd' htd
      split at hu
      · rename_i l hh ei el eh hei
        obtain ⟨⟨h0, h1, h2⟩, hu⟩ := hu
        subst hu
        have hv : v = _ := hv
        subst hv
        obtain ⟨⟨je, _, _, hje, _⟩, _⟩ := hT.fact hei
        have b1 := opt_bound el hlo
        have b2 := opt_bound eh hhi
        have hb := run_bounds (P := P) (w := w) (isS := true) (len := 0) (cap := 0) b1 b2 h0 h1 h2 (Nat.le_refl _)
        have e1 := run_underlying hd w
        have e2 := run_size hje w
        obtain rfl : l = 0 := by omega
        obtain rfl : hh = 0 := by omega
        refine ⟨.slice none 0 0, ?_, rfl⟩
        simp [Instr.sliceAt, Instr.slice, e1, hb, e2]
      · exact hu.elim
    · exact hu.elim
  · exact hu.elim

/-! ### Lengths -/
theorem slc_len (h : Inv E lk ι w) (hsub : ∀ o a, lk0 o = some a → lk o = some a) {x : LV} {v : Value} {p : (t : RT) × List (El t)} (hs : slc lk0 x = some p) (hv : LRel E (sgOf lk) ι x v) : ∃ A c, v = .slice A p.2.length c := by
  cases x <;> simp only [slc] at hs <;> try (cases hs; done)
  case own o =>
    split at hs
    · rename_i e t xs ho
      have ho' := hsub _ _ ho
      injection hs with hs
      subst hs
      have := hv t xs.length (lens t xs) (by simp [sgOf, ho', sig])
      have hob : RowRel w ι o e t xs := h.ob o _ ho'
      obtain ⟨cs, hcs⟩ := hob.owns
      obtain ⟨A, m, hA, _⟩ := owns_slice hcs
      exact ⟨A, m, by rw [this, hA]⟩
    · cases hs
  case ro t xs =>
    injection hs with hs
    subst hs
    obtain ⟨A, m, rfl, _⟩ := hv
    exact ⟨A, m, rfl⟩
  case view o lo hi =>
    split at hs
    · rename_i e t xs ho
      have ho' := hsub _ _ ho
      injection hs with hs
      subst hs
      obtain ⟨h1, h2, A, m, c, _, rfl⟩ := hv t xs.length (lens t xs) (by simp [sgOf, ho', sig])
      have hl : ((xs.take hi).drop lo).length = hi - lo := by simp; omega
      exact ⟨if c = lo then A else A.map (·.add (lo * t.sz)), c - lo, by rw [hl]⟩
    · cases hs
  case inn o i =>
    split at hs
    · rename_i e t xs ho
      have ho' := hsub _ _ ho
      cases t <;> simp only [inner] at hs <;> try (cases hs; done)
      rename_i e2 a
      injection hs with hs
      subst hs
      obtain ⟨h1, rfl⟩ := hv (.list e2 a) xs.length (lens _ xs) (by simp [sgOf, ho', sig])
      have hob : RowRel w ι o e (.list e2 a) xs := h.ob o _ ho'
      have hrow := hob.2.2.1 i _ (getD_get h1 ([] : List (El a)))
      obtain ⟨A, m, hA, _⟩ := owns_slice hrow
      exact ⟨A, m, hA⟩
    · cases hs

theorem step_len (hT : TyOk P T) (h : Inv E lk ι w) (hsub : ∀ o a, lk0 o = some a → lk o = some a) {t ty : TypeId} {ats : Array TypeId} (hats : ats.toList = [t]) {x : AV} {v : Value} (hv : ARel E (sgOf lk) ι x v) {u : AV} (hu : (evLen T lk0 t x).gives u) :
    ∃ z, (Builtin.len_ ats ty #[v]).run P w = .ok z w ∧ ARel E (sgOf lk) ι u z := by
  obtain rfl : ats = #[t] := by rw [← Array.toArray_toList (xs := ats), hats]
  unfold evLen at hu
  split at hu
  · rename_i i x hi
    obtain ⟨⟨j, d, z, hj, hjs, _, _, _, _, hd, htd', hag⟩, hrt⟩ := hT.fact hi
    have e1 := run_underlying hd w
    split at hu
    · rename_i s htd
      obtain rfl := tdOk_str htd' htd
      have hv : v = _ := hv
      have hu : u = _ := hu
      subst hv; subst hu
      exact ⟨_, by simp [Builtin.len_, e1, goInt], rfl⟩
    · rename_i e htd
      obtain rfl := tdOk_slice htd' htd
      have hv : v = _ := hv
      have hu : u = _ := hu
      subst hv; subst hu
      exact ⟨_, by simp [Builtin.len_, e1, goInt], rfl⟩
    · rename_i e htd _
      obtain rfl := tdOk_slice htd' htd
      split at hu
      · rename_i t' xs hs
        obtain ⟨A, c, rfl⟩ := slc_len h hsub hs hv
        have hu : u = _ := hu
        subst hu
        exact ⟨_, by simp [Builtin.len_, e1, goInt], rfl⟩
      · exact hu.elim
    · exact hu.elim
  · exact hu.elim

/-! ### A string's byte -/
theorem step_index (hT : TyOk P T) {t : TypeId} {i : TI} {s : ByteArray} {n : Int} {ix : AV} {v vi : Value} (hi : T.ti t = some i) (htd : i.td = .str) (hn : asInt ix = some n) (hv : LRel E sg ι (.str s) v) (hvi : ARel E sg ι ix vi) (h0 : 0 ≤ n) (h1 : n < s.size) :
    (Instr.index t v vi).run P w = .ok (.int .u8 (bt s n)) w := by
  obtain ⟨⟨j, d, z, hj, hjs, _, _, _, _, hd, htd', hag⟩, hrt⟩ := hT.fact hi
  obtain rfl := tdOk_str htd' htd
  obtain ⟨k, rfl⟩ := asInt_rel hn hvi
  have hv : v = _ := hv
  subst hv
  have e1 := run_underlying hd w
  have hlt : n.toNat < s.size := by omega
  simp [Instr.index, asIntOf, e1, h0, ByteArray.getElem?_lt' s _ hlt, bt, hlt]

/-! ### Values built of parts -/
theorem splice_some {l new r : List LV} {off : Nat} (h : splice l off new = some r) : r = l.take off ++ new ++ l.drop (off + new.length) ∧ off + new.length ≤ l.length := by
  unfold splice at h
  cases hb : Nat.ble (off + new.length) l.length with
  | true => rw [hb] at h; simp at h; exact ⟨by rw [← h]; simp, Nat.le_of_ble_eq_true hb⟩
  | false => rw [hb] at h; simp at h

theorem splice_rel {l new r : List LV} {cs ds : List Value} {off : Nat} (h : splice l off new = some r) (h1 : F2 (LRel E sg ι) l cs) (h2 : F2 (LRel E sg ι) new ds) : F2 (LRel E sg ι) r (cs.take off ++ ds ++ cs.drop (off + ds.length)) := by
  obtain ⟨rfl, _⟩ := splice_some h
  rw [← h2.length]
  exact ((h1.take off).append h2).append (h1.drop _)

theorem fold_set : ∀ (ds : List Value) (cs : Array Value) (off k : Nat), off + k + ds.length ≤ cs.size →
    ((ds.zipIdx k).foldl (fun (a : Array Value) (x : Value × Nat) => a.setIfInBounds (off + x.2) x.1) cs).toList = cs.toList.take (off + k) ++ ds ++ cs.toList.drop (off + k + ds.length)
  | [], cs, off, k, h => by simp
  | d :: ds, cs, off, k, h => by
    simp only [List.length_cons] at h
    simp only [List.zipIdx_cons, List.foldl_cons]
    rw [fold_set ds (cs.setIfInBounds (off + k) d) off (k + 1) (by simp; omega)]
    have hl : off + k < cs.toList.length := by simp; omega
    rw [Array.toList_setIfInBounds]
    have e1 : (cs.toList.set (off + k) d).take (off + (k + 1)) = cs.toList.take (off + k) ++ [d] := by
      rw [← Nat.add_assoc, List.take_succ_eq_append_getElem (by simp; omega)]
      simp [List.take_set_of_le]
    have e2 : (cs.toList.set (off + k) d).drop (off + (k + 1) + ds.length) = cs.toList.drop (off + k + (d :: ds).length) := by
      rw [List.drop_set_of_lt (by omega)]
      congr 1
      simp
      omega
    rw [e1, e2]
    simp

theorem fill_sound (h : Inv E lk ι w) (hsub : ∀ o a, lk0 o = some a → lk o = some a) {place : Nat → Option (Nat × Nat)} {fs : List (Nat × Nat)} (hp : ∀ i q, fs[i]? = some q → place i = some q) : ∀ {ps : List (Nat × AV)} {vs : List (Nat × Value)} {l r : List LV} {cs : Array Value},
    F2 (fun (p : Nat × AV) (q : Nat × Value) => p.1 = q.1 ∧ ARel E (sgOf lk) ι p.2 q.2) ps vs → F2 (LRel E (sgOf lk) ι) l cs.toList → fillC lk0 l fs ps = some r →
    ∃ ds, Instr.fill place cs vs = some ds ∧ F2 (LRel E (sgOf lk) ι) r ds.toList
  | [], _, l, r, cs, hps, hl, hf => by
    cases hps
    simp [fillC] at hf
    subst hf
    exact ⟨cs, rfl, hl⟩
  | (i, x) :: ps, vs, l, r, cs, hps, hl, hf => by
    cases hps with
    | cons hq hqs =>
      rename_i q qs
      obtain ⟨i', v⟩ := q
      obtain ⟨rfl, hxv⟩ := hq
      simp only [fillC] at hf
      split at hf
      · rename_i off n new hfi hnew
        cases hb : (Nat.beq new.length n && new.all (LV.solid lk0)) with
        | false => rw [hb] at hf; simp at hf
        | true =>
          rw [hb] at hf
          simp only [cond_true] at hf
          simp only [Bool.and_eq_true] at hb
          obtain ⟨hb, hso⟩ := hb
          split at hf
          · rename_i l' hsp
            have hn := Nat.eq_of_beq_eq_true hb
            have hrel := (AV.stored h hsub hnew hxv hso).1
            have hlen : v.cells.size = n := by rw [← hn, hrel.length]; simp
            obtain ⟨_, hle⟩ := splice_some hsp
            have hcs : cs.size = l.length := by rw [hl.length]; simp
            have hset := fold_set v.cells.toList cs off 0 (by simp; omega)
            obtain ⟨ds, hds, hrd⟩ := fill_sound h hsub hp (cs := v.cells.zipIdx.foldl (fun cs (c, j) => cs.setIfInBounds (off + j) c) cs) hqs (by
              have := splice_rel hsp hl hrel
              have e : (v.cells.zipIdx.foldl (fun (cs : Array Value) (x : Value × Nat) => cs.setIfInBounds (off + x.2) x.1) cs).toList = cs.toList.take off ++ v.cells.toList ++ cs.toList.drop (off + v.cells.toList.length) := by
                simp only [Nat.add_zero] at hset
                rw [← hset, ← Array.foldl_toList]
                simp
              rw [e]
              exact this) hf
            refine ⟨ds, ?_, hrd⟩
            simp only [Instr.fill, hp _ _ hfi]
            have hns : new.length = v.cells.size := by omega
            rw [if_neg (by simp; omega)]
            exact hds
          · cases hf
      · cases hf

theorem F2.map_pairs {ps : List (Nat × Operand)} {ρ : Operand → AV} {a : Operand → Value} (h : ∀ x, ARel E sg ι (ρ x) (a x)) :
    F2 (fun (p : Nat × AV) (q : Nat × Value) => p.1 = q.1 ∧ ARel E sg ι p.2 q.2) (ps.map fun p => (p.1, ρ p.2)) (ps.map fun p => (p.1, a p.2)) :=
  F2.of_map _ fun p _ => ⟨rfl, h p.2⟩

theorem fields_places : ∀ {fs : List Field} {gs : List (Nat × Nat × Bool)}, fieldsOk P fs gs = true → ∀ w, (fs.mapM fun f => (do pure (f.offset, ← sizeOf f.type) : Sem (Nat × Nat))).run P w = .ok (gs.map fun g => (g.1, g.2.1)) w
  | [], [], _, w => by simp
  | [], _ :: _, h, _ => by simp [fieldsOk] at h
  | _ :: _, [], h, _ => by simp [fieldsOk] at h
  | f :: fs, g :: gs, h, w => by
    simp only [fieldsOk, Bool.and_eq_true] at h
    obtain ⟨⟨⟨h1, h2⟩, h3⟩, h4⟩ := h
    split at h2
    · rename_i j hj
      have ih := fields_places h4 w
      have e := run_size hj w
      simp only [bind_pure_comp] at ih
      simp [List.mapM_cons, e, ih, Nat.eq_of_beq_eq_true h1, Nat.eq_of_beq_eq_true h2]
    · cases h2

theorem step_build (hT : TyOk P T) (h : Inv E lk ι w) (hsub : ∀ o a, lk0 o = some a → lk o = some a) {t : TypeId} {ps : Array (Nat × Operand)} {ρ : Operand → AV} {a : Operand → Value} (hρ : ∀ x, ARel E (sgOf lk) ι (ρ x) (a x)) {u : AV}
    (hu : (evBuild T lk0 t (ps.toList.map fun p => (p.1, ρ p.2))).gives u) : ∃ z, (Instr.build t (ps.map fun (i, x) => (i, a x))).run P w = .ok z w ∧ ARel E (sgOf lk) ι u z := by
  unfold evBuild at hu
  split at hu
  · rename_i i hi
    obtain ⟨⟨j, d, z, hj, hjs, _, hz, hzc, hzp, hd, htd', hag⟩, hrt⟩ := hT.fact hi
    split at hu
    · rename_i fs htd
      obtain ⟨gs, rfl, hfo⟩ := tdOk_struct htd' htd
      split at hu
      · rename_i l hl
        have hu : u = _ := hu
        subst hu
        have e0 := run_zero hj hz w
        have e1 := run_underlying hd w
        have e2 := fields_places hfo w
        have hpl : F2 (LRel E (sgOf lk) ι) i.zero z.cells.toList := by rw [hzc]; exact LRels.plain hzp
        obtain ⟨ds, hds, hrd⟩ := fill_sound (place := fun k => ((fs.map fun g => (g.1, g.2.1)).toArray)[k]?) h hsub (fun k q hk => by simpa using hk) (F2.map_pairs hρ) hpl hl
        refine ⟨.agg ds, ?_, ds, rfl, hrd⟩
        have e3 : (gs.mapM fun f => (do pure (f.offset, ← sizeOf f.type) : Sem (Nat × Nat))).run P w = .ok ((fs.map fun g => (g.1, g.2.1)).toArray) w := by
          rw [Array.mapM_eq_mapM_toList]
          simp only [Sem.run_map]
          rw [e2]
          rfl
        have e4 : (ps.map fun (i, x) => (i, a x)).toList = ps.toList.map fun p => (p.1, a p.2) := by simp
        simp only [Instr.build, Sem.run_bind, e0, e1, e3, Result.andThen_ok, e4]
        rw [hds]
        rfl
      · exact hu.elim
    · exact hu.elim
  · exact hu.elim
end

end Go.Proofs.Ytiooamodldgalaa.Abs
