/-
One operation that is no call, part five: equality of structs; conversions.
-/
import Derived.Test.YtiooamodldgalaaAbs8
namespace Go.Proofs.Ytiooamodldgalaa.Abs
open Go

def kindsFs (g : TypeId → Option (List LV)) (P : Program) : List Field → Nat → Option (List LV)
  | [], _ => some []
  | f :: r, off =>
    if f.name = "_" then none else if f.offset = off then
      match g f.type, P.info? f.type, P.underlying f.type with
      | some l, some i, some d => if i.size = l.length ∧ 0 < l.length ∧ (aggD d = false → l.length = 1) then (kindsFs g P r (off + l.length)).map (l ++ ·) else none
      | _, _, _ => none
    else none

def kindsOf (P : Program) : Nat → TypeId → Option (List LV)
  | 0, _ => none
  | d + 1, t =>
    match P.underlying t with
    | some (.int k) => some [.int k 0]
    | some .bool => some [.bool false]
    | some .string => some [.str ByteArray.empty]
    | some (.struct fs) => if P.stoodInHeld t = true then none else kindsFs (kindsOf P d) P fs.toList 0
    | _ => none

def kindEq : List LV → List LV → Bool
  | [], [] => true
  | .int _ _ :: r, .int _ _ :: s => kindEq r s
  | .bool _ :: r, .bool _ :: s => kindEq r s
  | .str _ :: r, .str _ :: s => kindEq r s
  | _, _ => false

def eqOk (P : Program) (t : TypeId) (pat : List LV) : Bool :=
  (match kindsOf P 6 t with | some l => kindEq l pat | none => false) && (match P.underlying t with | some d => aggD d | none => false) && !(P.eqGuardType P.depth t)

structure EqOk (P : Program) (T : Env) : Prop where
  ok : ∀ t pat, assoc T.eqs t = some pat → eqOk P t pat = true

section
variable {E : Ctx} {lk lk0 : Nat → Option AO} {ι : Im} {w w' : World} {P : Program} {T : Env} {sg : Nat → Option Sig}

theorem eqLvs_cons {p x y : LV} {q r s : List LV} {b : Bool} (h : eqLvs (p :: q) (x :: r) (y :: s) = some b) : ∃ b1 b2, eqLv p x y = some b1 ∧ eqLvs q r s = some b2 ∧ b = (b1 && b2) := by
  cases q with
  | nil =>
    cases r with
    | nil =>
      cases s with
      | nil => exact ⟨b, true, h, rfl, by simp⟩
      | cons y' s => simp only [eqLvs] at h; split at h <;> simp_all
    | cons x' r => simp only [eqLvs] at h; split at h <;> simp_all
  | cons p' q =>
    simp only [eqLvs] at h
    split at h
    · rename_i b1 b2 h1 h2
      injection h with h
      exact ⟨b1, b2, h1, h2, h.symm⟩
    · cases h

theorem eqLvs_len : ∀ {p l m : List LV} {b : Bool}, eqLvs p l m = some b → l.length = p.length ∧ m.length = p.length
  | [], [], [], _, _ => ⟨rfl, rfl⟩
  | [], _ :: _, _, _, h => by simp [eqLvs] at h
  | [], [], _ :: _, _, h => by simp [eqLvs] at h
  | _ :: _, [], _, _, h => by simp [eqLvs] at h
  | _ :: _, _ :: _, [], _, h => by simp [eqLvs] at h
  | p :: q, x :: r, y :: s, b, h => by
    obtain ⟨b1, b2, _, h2, _⟩ := eqLvs_cons h
    have := eqLvs_len h2
    simp [this.1, this.2]

theorem eqLvs_split : ∀ {p q l m : List LV} {b : Bool}, eqLvs (p ++ q) l m = some b →
    ∃ b1 b2, eqLvs p (l.take p.length) (m.take p.length) = some b1 ∧ eqLvs q (l.drop p.length) (m.drop p.length) = some b2 ∧ b = (b1 && b2)
  | [], q, l, m, b, h => ⟨true, b, rfl, by simpa using h, by simp⟩
  | p :: p', q, [], m, b, h => by simp [eqLvs] at h
  | p :: p', q, x :: l, [], b, h => by simp [eqLvs] at h
  | p :: p', q, x :: l, y :: m, b, h => by
    obtain ⟨b1, b2, h1, h2, rfl⟩ := eqLvs_cons h
    obtain ⟨c1, c2, g1, g2, rfl⟩ := eqLvs_split h2
    refine ⟨b1 && c1, c2, ?_, by simpa using g2, by simp [Bool.and_assoc]⟩
    simp only [List.length_cons, List.take_succ_cons]
    cases p' with
    | nil => simp [eqLvs] at g1; subst g1; simp [eqLvs, h1]
    | cons p1 p2 =>
      have := eqLvs_len g1
      cases hl : l.take (p1 :: p2).length with
      | nil => rw [hl] at this; simp at this
      | cons x1 l1 =>
        rw [hl] at g1
        simp only [eqLvs, h1, g1]

theorem eqLv_one {D : Nat} {t : TypeId} {p x y : LV} {u v : Value} {b : Bool} {l : List LV} (hk : kindsOf P (D + 1) t = some l) (hl : kindEq l [p] = true) (h1 : ∀ d, P.underlying t = some d → aggD d = false) (he : eqLv p x y = some b) (hx : LRel E sg ι x u) (hy : LRel E sg ι y v) (d : Nat) :
    (Op.equalIn (d + 1) t u v).run P w = .ok b w := by
  simp only [kindsOf] at hk
  split at hk
  · rename_i k hd
    injection hk with hk
    subst hk
    cases p <;> simp [kindEq] at hl
    cases x <;> simp [eqLv] at he
    cases y <;> simp at he
    obtain ⟨rfl, rfl⟩ := he
    have hx : u = _ := hx
    have hy : v = _ := hy
    subst hx; subst hy
    rw [run_equalIn_int w d t _ _ _ _ hd]
    rfl
  · rename_i hd
    injection hk with hk
    subst hk
    cases p <;> simp [kindEq] at hl
    cases x <;> simp [eqLv] at he
    cases y <;> simp at he
    subst he
    have hx : u = _ := hx
    have hy : v = _ := hy
    subst hx; subst hy
    exact run_equalIn_bool' w d t _ _ hd
  · rename_i hd
    injection hk with hk
    subst hk
    cases p <;> simp [kindEq] at hl
    cases x <;> simp [eqLv] at he
    cases y <;> simp at he
    subst he
    have hx : u = _ := hx
    have hy : v = _ := hy
    subst hx; subst hy
    rw [run_equalIn_string w d t _ _ hd, toList_eq]
  · rename_i fs hd
    have := h1 _ hd
    simp [aggD] at this
  · cases hk

theorem kindEq_split : ∀ {a b p : List LV}, kindEq (a ++ b) p = true → ∃ p1 p2, p = p1 ++ p2 ∧ kindEq a p1 = true ∧ kindEq b p2 = true ∧ p1.length = a.length
  | [], b, p, h => ⟨[], p, rfl, rfl, h, rfl⟩
  | x :: a, b, [], h => by cases x <;> simp [kindEq] at h
  | x :: a, b, y :: p, h => by
    cases x <;> cases y <;> simp [kindEq] at h
    all_goals
      obtain ⟨p1, p2, rfl, h1, h2, h3⟩ := kindEq_split h
      exact ⟨_ :: p1, p2, rfl, by simpa [kindEq] using h1, h2, by simp [h3]⟩

/-- What equality of two values of a type tells. -/
def EqAt (P : Program) (E : Ctx) (sg : Nat → Option Sig) (ι : Im) (w : World) (D : Nat) : Prop :=
  ∀ t l p x y r cs ds, kindsOf P D t = some l → kindEq l p = true → eqLvs p x y = some r → F2 (LRel E sg ι) x cs → F2 (LRel E sg ι) y ds →
    ∀ d u v, (∀ dd, P.underlying t = some dd → (aggD dd = true → u = .agg cs.toArray ∧ v = .agg ds.toArray) ∧ (aggD dd = false → cs = [u] ∧ ds = [v])) → (Op.equalIn (D + d) t u v).run P w = .ok r w

theorem eqFields_sound {D d : Nat} (ih : EqAt P E sg ι w D) (xs ys : Array Value) : ∀ (fs : List Field) (off : Nat) (l p x y : List LV) (r : Bool), kindsFs (kindsOf P D) P fs off = some l → kindEq l p = true →
    F2 (LRel E sg ι) x (xs.toList.drop off) → F2 (LRel E sg ι) y (ys.toList.drop off) → eqLvs p x y = some r → (Op.eqFields (D + d) xs ys fs).run P w = .ok r w
  | [], off, l, p, x, y, r, hk, hp, hx, hy, he => by
    simp [kindsFs] at hk
    subst hk
    cases p with
    | cons a b => simp [kindEq] at hp
    | nil =>
      cases x <;> cases y <;> simp [eqLvs] at he
      subst he
      rfl
  | f :: fs, off, l, p, x, y, r, hk, hp, hx, hy, he => by
    simp only [kindsFs] at hk
    split at hk
    · cases hk
    · rename_i hname
      split at hk
      · rename_i hoff
        split at hk
        · rename_i l1 i dd hl1 hi hdd
          split at hk
          · rename_i hc
            obtain ⟨hs, hpos, hag⟩ := hc
            simp only [Option.map_eq_some_iff] at hk
            obtain ⟨l2, hl2, rfl⟩ := hk
            obtain ⟨p1, p2, rfl, hp1, hp2, hpl⟩ := kindEq_split hp
            obtain ⟨b1, b2, he1, he2, rfl⟩ := eqLvs_split he
            have hlen := eqLvs_len he1
            rw [hpl] at he1 he2
            have hx1 := hx.take l1.length
            have hy1 := hy.take l1.length
            have hx2 := hx.drop l1.length
            have hy2 := hy.drop l1.length
            rw [List.drop_drop] at hx2 hy2
            have hrest := eqFields_sound (d := d) ih xs ys fs (off + l1.length) l2 p2 _ _ b2 hl2 hp2 hx2 hy2 he2
            subst hoff
            have hpx : ∃ u v, (part f.type xs f.offset).run P w = .ok u w ∧ (part f.type ys f.offset).run P w = .ok v w ∧ (Op.equalIn (D + d) f.type u v).run P w = .ok b1 w := by
              cases ha : aggD dd with
              | true =>
                refine ⟨_, _, run_part_agg hi hdd ha xs f.offset, run_part_agg hi hdd ha ys f.offset, ?_⟩
                refine ih f.type l1 p1 _ _ b1 _ _ hl1 hp1 he1 hx1 hy1 d _ _ fun d2 hd2 => ?_
                rw [hdd] at hd2
                injection hd2 with hd2
                subst hd2
                refine ⟨fun _ => ⟨?_, ?_⟩, fun h => (by rw [ha] at h; cases h)⟩
                · rw [hs, ← take_drop_extract]
                · rw [hs, ← take_drop_extract]
              | false =>
                have h1 := hag ha
                rw [hpl] at hlen
                rw [h1] at hx1 hy1 he1 hlen
                obtain ⟨x0, hx0⟩ : ∃ a, x.take 1 = [a] := by
                  cases x with
                  | nil => simp at hlen
                  | cons a x => exact ⟨a, by simp⟩
                obtain ⟨y0, hy0⟩ : ∃ a, y.take 1 = [a] := by
                  cases y with
                  | nil => simp at hlen
                  | cons a x => exact ⟨a, by simp⟩
                rw [hx0] at hx1 he1
                rw [hy0] at hy1 he1
                obtain ⟨u, hu, hxu⟩ := hx1.get (i := 0) rfl
                obtain ⟨v, hv, hyv⟩ := hy1.get (i := 0) rfl
                have hu' : xs[f.offset]? = some u := by
                  have := drop_take_get hu
                  simpa using this
                have hv' : ys[f.offset]? = some v := by
                  have := drop_take_get hv
                  simpa using this
                refine ⟨u, v, run_part_one hdd ha xs f.offset hu', run_part_one hdd ha ys f.offset hv', ?_⟩
                refine ih f.type l1 p1 _ _ b1 _ _ hl1 hp1 he1 (.single hxu) (.single hyv) d _ _ fun d2 hd2 => ?_
                rw [hdd] at hd2
                injection hd2 with hd2
                subst hd2
                exact ⟨fun h => (by rw [ha] at h; cases h), fun _ => ⟨rfl, rfl⟩⟩
            obtain ⟨u, v, e1, e2, e3⟩ := hpx
            simp only [Op.eqFields, ne_eq, hname, not_false_eq_true, if_true, Sem.run_bind, e1, e2, e3, Result.andThen_ok]
            cases b1 with
            | false => simp
            | true => simpa using hrest
          · cases hk
        · cases hk
      · cases hk

theorem eq_sound : ∀ (D : Nat), EqAt P E sg ι w D
  | 0 => fun t l p x y r cs ds hk => by simp [kindsOf] at hk
  | D + 1 => by
    intro t l p x y r cs ds hk hp he hx hy d u v huv
    cases hd : P.underlying t with
    | none => simp [kindsOf, hd] at hk
    | some dd =>
      obtain ⟨hag, hone⟩ := huv dd hd
      cases ha : aggD dd with
      | false =>
        obtain ⟨rfl, rfl⟩ := hone ha
        have hlen := eqLvs_len he
        cases hx with
        | cons hxu hxn =>
          cases hxn
          cases hy with
          | cons hyv hyn =>
            cases hyn
            cases p with
            | nil => simp [eqLvs] at he
            | cons p0 p1 =>
              cases p1 with
              | cons _ _ => simp at hlen
              | nil =>
                have he' : eqLv p0 _ _ = some r := he
                have := eqLv_one (w := w) hk hp (fun d2 hd2 => by rw [hd] at hd2; injection hd2 with hd2; subst hd2; exact ha) he' hxu hyv (D + d)
                rw [show D + 1 + d = D + d + 1 by omega]
                exact this
      | true =>
        obtain ⟨rfl, rfl⟩ := hag ha
        simp only [kindsOf, hd] at hk
        split at hk
        · rename_i h; injection h with h; subst h; simp [aggD] at ha
        · rename_i h; injection h with h; subst h; simp [aggD] at ha
        · rename_i h; injection h with h; subst h; simp [aggD] at ha
        · rename_i fs h
          injection h with h
          subst h
          split at hk
          · cases hk
          · rename_i hst
            have hfo : P.fieldsOf t = fs := by simp [Program.fieldsOf, hd]
            have h0 := run_equalIn_struct (P := P) w (D + d) t cs.toArray ds.toArray (by rw [hfo]; exact hd) (by simpa using hst)
            rw [show D + 1 + d = D + d + 1 by omega, h0, hfo]
            exact eqFields_sound (eq_sound D) cs.toArray ds.toArray fs.toList 0 l p x y r hk hp (by simpa using hx) (by simpa using hy) he
        · cases hk

theorem step_eq (hE : EqOk P T) (hT : TyOk P T) {op : BinOp} {t : TypeId} {X Y : Operand} {x y : AV} {vx vy : Value} (hx : ARel E sg ι x vx) (hy : ARel E sg ι y vy) {u : AV} (hu : (evBinA T op t x y).gives u) :
    ∃ z, (do eqGuard op t X Y vx vy; binOp op t vx vy : Sem Value).run P w = .ok z w ∧ ARel E sg ι u z := by
  unfold evBinA at hu
  split at hu
  · rename_i a b
    have hx : vx = _ := hx
    have hy : vy = _ := hy
    subst hx; subst hy
    split at hu
    · rename_i i hi
      obtain ⟨⟨j, d, z, hj, hjs, _, _, _, _, hd, htd', hag⟩, hrt⟩ := hT.fact hi
      split at hu
      · rename_i htd
        obtain rfl := tdOk_bool htd' htd
        have hu : u = _ := hu
        subst hu
        refine ⟨_, ?_, rfl⟩
        have := run_equalIn_bool' (P := P) w 9999 t a b hd
        simp [eqGuard, binOp, Op.equal, Op.maxDepth, this]
      · rename_i htd
        obtain rfl := tdOk_bool htd' htd
        have hu : u = _ := hu
        subst hu
        refine ⟨_, ?_, rfl⟩
        have := run_equalIn_bool' (P := P) w 9999 t a b hd
        simp [eqGuard, binOp, Op.equal, Op.maxDepth, this]
      · exact hu.elim
    · exact hu.elim
  · obtain ⟨q, hq, rfl⟩ := gives_map hu
    obtain ⟨z, hz, hzr⟩ := step_bin hx hy hq
    exact ⟨z, hz, hzr⟩
  · rename_i a b
    obtain ⟨cs, rfl, hcs⟩ := hx
    obtain ⟨ds, rfl, hds⟩ := hy
    split at hu
    · rename_i pat hpat
      have h0 := hE.ok t pat hpat
      simp only [eqOk, Bool.and_eq_true] at h0
      obtain ⟨⟨h1, h2⟩, h3⟩ := h0
      split at h1
      · rename_i l hl
        have key : ∀ r, eqLvs pat a b = some r → (Op.equal t (.agg cs) (.agg ds)).run P w = .ok r w := by
          intro r hr
          have := eq_sound (P := P) (E := E) (sg := sg) (ι := ι) (w := w) 6 t l pat a b r cs.toList ds.toList hl h1 hr hcs hds 9994 (.agg cs) (.agg ds) (fun dd hdd => by
            rw [hdd] at h2
            exact ⟨fun _ => ⟨by simp, by simp⟩, fun h => by simp [h] at h2⟩)
          exact this
        have h3' : P.eqGuardType P.depth t = false := by simpa using h3
        split at hu
        · rename_i r hr
          have hu : u = _ := hu
          subst hu
          exact ⟨.bool r, by simp [eqGuard, binOp, h3', key r hr], rfl⟩
        · rename_i r hr
          have hu : u = _ := hu
          subst hu
          exact ⟨.bool (!r), by simp [eqGuard, binOp, h3', key r hr], rfl⟩
        · exact hu.elim
      · cases h1
    · exact hu.elim
  · exact hu.elim
end

end Go.Proofs.Ytiooamodldgalaa.Abs
