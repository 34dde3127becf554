/-
One operation that is no call, part three: arithmetic, addresses, parts of values.
-/
import Derived.Test.YtiooamodldgalaaAbs6
import Derived.Laws.StructEq
import Derived.Laws.BytesString
namespace Go.Proofs.Ytiooamodldgalaa.Abs
open Go

section
variable {E : Ctx} {lk lk0 : Nat → Option AO} {ι : Im} {w w' : World} {P : Program} {T : Env} {sg : Nat → Option Sig}

/-! ### Arithmetic -/
theorem toList_eq (a b : ByteArray) : (a.toList == b.toList) = decide (a = b) := by
  by_cases h : a = b
  · subst h; simp
  · have : ¬ a.toList = b.toList := by
      intro e
      apply h
      have e1 : a.data.toList = b.data.toList := by rwa [ByteArray.toList_eq, ByteArray.toList_eq] at e
      cases a; cases b
      congr
      simpa using congrArg List.toArray e1
    simp [h, this]

theorem step_bin {op : BinOp} {t : TypeId} {X Y : Operand} {x y u : LV} {vx vy : Value} (hx : LRel E sg ι x vx) (hy : LRel E sg ι y vy) (hu : (evBin op x y).gives u) :
    ∃ z, (do eqGuard op t X Y vx vy; binOp op t vx vy : Sem Value).run P w = .ok z w ∧ LRel E sg ι u z := by
  cases x <;> cases y <;> try exact hu.elim
  case int.int k a l b =>
    have hx : vx = _ := hx
    have hy : vy = _ := hy
    subst hx; subst hy
    by_cases hop : op = .shr
    · subst hop
      by_cases hk : k = .i64 ∨ k = .u64
      · simp only [evBin, if_pos hk] at hu
        obtain ⟨hc, hu⟩ := hu
        subst hu
        refine ⟨_, ?_, rfl⟩
        have hb : min b.toNat k.bits = b.toNat := by
          rcases hk with rfl | rfl <;> simp [IntKind.bits] <;> omega
        simp [eqGuard, binOp, Op.shift, hb, show ¬ b < 0 by omega]
      · simp only [evBin, if_neg hk] at hu
        exact hu.elim
    · by_cases hk : k = l
      · subst hk
        cases op <;> simp only [evBin, if_true] at hu <;> try exact hu.elim
        case shr => exact absurd rfl hop
        case quo =>
          obtain ⟨hc, hu⟩ := hu
          subst hu
          exact ⟨_, by simp [eqGuard, binOp, Op.intDiv, hc], rfl⟩
        case rem =>
          obtain ⟨hc, hu⟩ := hu
          subst hu
          exact ⟨_, by simp [eqGuard, binOp, Op.intDiv, hc], rfl⟩
        all_goals
          have hu : u = _ := hu
          subst hu
          refine ⟨_, ?_, rfl⟩
          simp [eqGuard, binOp, Op.intArith, Op.intCmp, Op.intBits] <;> (try rfl) <;> (try (simp [bne]; rfl))
      · cases op <;> simp only [evBin, if_neg hk] at hu <;> first | exact hu.elim | exact absurd rfl hop
  case str.str a b =>
    have hx : vx = _ := hx
    have hy : vy = _ := hy
    subst hx; subst hy
    cases op <;> try exact hu.elim
    case add =>
      obtain ⟨hc, hu⟩ := hu
      subst hu
      refine ⟨_, ?_, rfl⟩
      have : (a.size : Int) + (b.size : Int) ≤ 9223372036854775807 := by
        unfold SB at hc
        omega
      simp [eqGuard, binOp, Op.stringOp, IntKind.max, IntKind.bits, IntKind.signed]
      omega
    all_goals
      have hu : u = _ := hu
      subst hu
      refine ⟨_, ?_, rfl⟩
      simp [eqGuard, binOp, Op.stringOp, toList_eq]

theorem step_un {op : UnOp} {x u : LV} {v : Value} (hx : LRel E sg ι x v) (hu : (evUn op x).gives u) : ∃ z, (Op.unary op v).run P w = .ok z w ∧ LRel E sg ι u z := by
  cases op <;> cases x <;> try exact hu.elim
  case neg.int k n =>
    have hx : v = _ := hx
    have hu : u = _ := hu
    subst hx; subst hu
    exact ⟨_, by simp [Op.unary, Op.intArith], rfl⟩
  case not.bool b =>
    have hx : v = _ := hx
    have hu : u = _ := hu
    subst hx; subst hu
    exact ⟨_, by simp [Op.unary], rfl⟩

/-! ### Addresses -/
theorem addOff_sound {x y : LV} {off : Nat} {v : Value} (hy : addOff off x = some y) (hx : LRel E sg ι x v) (hs : ∃ ad, v = .pointer (some ad)) : ∃ ad, v = .pointer (some ad) ∧ LRel E sg ι y (.pointer (some (ad.add off))) := by
  obtain ⟨ad, rfl⟩ := hs
  refine ⟨ad, rfl, ?_⟩
  cases x <;> simp [addOff] at hy <;> subst hy
  case ptr o a =>
    intro h
    obtain ⟨g, h1, h2⟩ := hx h
    injection h2 with h2; injection h2 with h2
    subst h2
    exact ⟨g, h1, by rw [add_lit]⟩
  case eptr o i a =>
    intro t n ls h
    obtain ⟨h0, g, m, c, h1, h2⟩ := hx t n ls h
    injection h2 with h2; injection h2 with h2
    subst h2
    exact ⟨h0, g, m, c, h1, by rw [add_lit, Nat.add_assoc]⟩
  case iptr o i j a =>
    intro e b n ls h
    obtain ⟨h0, h0', g, m, c, h1, h2⟩ := hx e b n ls h
    injection h2 with h2; injection h2 with h2
    subst h2
    exact ⟨h0, h0', g, m, c, h1, by rw [add_lit, Nat.add_assoc]⟩
  case rptr t x a =>
    obtain ⟨ad', cs, h1, h2, h3, h4⟩ := hx
    injection h1 with h1; injection h1 with h1
    subst h1
    refine ⟨ad.add off, cs, rfl, h2, by rw [add_block]; exact h3, fun j u hj => ?_⟩
    rw [add_add]
    exact h4 _ _ (by rw [← hj, Nat.add_assoc])

theorem fields_get {fs : List Field} {gs : List (Nat × Nat × Bool)} (h : fieldsOk P fs gs = true) {k : Nat} {g : Nat × Nat × Bool} (hg : gs[k]? = some g) :
    ∃ f j d, fs[k]? = some f ∧ f.offset = g.1 ∧ P.info? f.type = some j ∧ j.size = g.2.1 ∧ P.underlying f.type = some d ∧ aggD d = g.2.2 := by
  induction fs generalizing gs k with
  | nil =>
    cases gs with
    | nil => simp at hg
    | cons g gs => simp [fieldsOk] at h
  | cons f fs ih =>
    cases gs with
    | nil => simp [fieldsOk] at h
    | cons g' gs =>
      simp only [fieldsOk, Bool.and_eq_true] at h
      obtain ⟨⟨⟨h1, h2⟩, h3⟩, h4⟩ := h
      cases k with
      | zero =>
        simp at hg
        subst hg
        split at h2
        · rename_i j hj
          split at h3
          · rename_i d hd
            exact ⟨f, j, d, rfl, Nat.eq_of_beq_eq_true h1, hj, Nat.eq_of_beq_eq_true h2, hd, by simpa using h3⟩
          · cases h3
        · cases h2
      | succ k =>
        simp at hg
        simpa using ih h4 hg

theorem tdOk_struct {td : TD} {d : TypeDesc} {fs : List (Nat × Nat × Bool)} (h : tdOk P td d = true) (htd : td = .struct fs) : ∃ gs, d = .struct gs ∧ fieldsOk P gs.toList fs = true := by
  subst htd
  cases d <;> simp [tdOk] at h
  exact ⟨_, rfl, h⟩
theorem tdOk_slice {td : TD} {d : TypeDesc} {e : TypeId} (h : tdOk P td d = true) (htd : td = .slice e) : d = .slice e := by
  subst htd
  cases d <;> simp [tdOk] at h
  subst h; rfl
theorem tdOk_str {td : TD} {d : TypeDesc} (h : tdOk P td d = true) (htd : td = .str) : d = .string := by
  subst htd
  cases d <;> simp [tdOk] at h
  rfl
theorem tdOk_int {td : TD} {d : TypeDesc} {k : IntKind} (h : tdOk P td d = true) (htd : td = .int k) : d = .int k := by
  subst htd
  cases d <;> simp [tdOk] at h
  subst h; rfl
theorem tdOk_bool {td : TD} {d : TypeDesc} (h : tdOk P td d = true) (htd : td = .bool) : d = .bool := by
  subst htd
  cases d <;> simp [tdOk] at h
  rfl

/-- A pointer's value, where the evaluator knows one. -/
theorem ptr_val {x : LV} {v : Value} (hsub : ∀ o a, lk0 o = some a → lk o = some a) (hok : ptrOk lk0 x = true) (hx : LRel E (sgOf lk) ι x v) : ∃ ad, v = .pointer (some ad) := by
  cases x <;> simp [ptrOk] at hok
  case ptr o a =>
    split at hok
    · rename_i h
      obtain ⟨g, _, h⟩ := hx (by simp [sgOf, hsub _ _ h, sig])
      exact ⟨_, h⟩
    · cases hok
  case eptr o i a =>
    split at hok
    · rename_i h
      obtain ⟨_, g, m, c, _, h⟩ := hx _ _ _ (by simp [sgOf, hsub _ _ h, sig]; exact ⟨rfl, rfl, rfl⟩)
      exact ⟨_, h⟩
    · cases hok
  case iptr o i j a =>
    split at hok
    · rename_i e t xs h
      cases t <;> simp at hok
      obtain ⟨_, _, g, m, c, _, h⟩ := hx _ _ _ _ (by simp [sgOf, hsub _ _ h, sig]; exact ⟨⟨rfl, rfl⟩, rfl, rfl⟩)
      exact ⟨_, h⟩
    · cases hok
  case rptr t x a => obtain ⟨ad, _, h, _⟩ := hx; exact ⟨ad, h⟩

theorem step_fieldAddr (hT : TyOk P T) (hsub : ∀ o a, lk0 o = some a → lk o = some a) {t : TypeId} {i : TI} {fs : List (Nat × Nat × Bool)} {k : Nat} {off n : Nat} {b : Bool} {p q : LV} {v : Value}
    (hi : T.ti t = some i) (htd : i.td = .struct fs) (hf : fs[k]? = some (off, n, b)) (hn : (Nat.beq n 0 || !(ptrOk lk0 p)) = false) (hq : addOff off p = some q) (hp : LRel E (sgOf lk) ι p v) :
    ∃ z, (Instr.fieldAt t v k).run P w = .ok z w ∧ LRel E (sgOf lk) ι q z := by
  simp only [Bool.or_eq_false_iff, Bool.not_eq_false'] at hn
  obtain ⟨⟨j, d, z, hj, hjs, _, _, _, _, hd, htd', hag⟩, _⟩ := hT.fact hi
  obtain ⟨gs, rfl, hfo⟩ := tdOk_struct htd' htd
  obtain ⟨f, jf, df, hf1, hf2, hf3, hf4, _, _⟩ := fields_get hfo hf
  obtain ⟨ad, rfl, hr⟩ := addOff_sound hq hp (ptr_val hsub hn.2 hp)
  refine ⟨_, ?_, hr⟩
  have h1 := run_underlying hd w
  have hf1' : gs[k]? = some f := by simpa using hf1
  have hne : ¬ jf.size = 0 := by
    intro e
    rw [e] at hf4
    simp at hf4
    subst hf4
    simp at hn
  have h2 := run_size hf3 w
  simp only at hf2
  simp [Instr.fieldAt, h1, hf1', Instr.sureAddr, fieldPlace, h2, hne, hf2]

/-! ### Parts -/
theorem take_drop_extract {α : Type} (a : Array α) (i n : Nat) : (a.extract i (i + n)).toList = (a.toList.drop i).take n := by
  simp [List.take_drop, Array.toList_extract, List.extract]

theorem run_part_agg {t : TypeId} {j : TypeInfo} {d : TypeDesc} (hj : P.info? t = some j) (hd : P.underlying t = some d) (ha : aggD d = true) (cs : Array Value) (off : Nat) : (part t cs off).run P w = .ok (.agg (cs.extract off (off + j.size))) w := by
  have h1 := run_isAgg hd w
  rw [ha] at h1
  have h2 := run_size hj w
  simp [part, h1, h2]
theorem run_part_one {t : TypeId} {d : TypeDesc} (hd : P.underlying t = some d) (ha : aggD d = false) (cs : Array Value) (off : Nat) {v : Value} (hv : cs[off]? = some v) : (part t cs off).run P w = .ok v w := by
  have h1 := run_isAgg hd w
  rw [ha] at h1
  simp [part, h1, hv]

theorem step_field (hT : TyOk P T) {t : TypeId} {i : TI} {fs : List (Nat × Nat × Bool)} {k : Nat} {off n : Nat} {b : Bool} {l l' : List LV} {v : Value}
    (hi : T.ti t = some i) (htd : i.td = .struct fs) (hf : fs[k]? = some (off, n, b)) (hl : seg l off n = some l') (hv : ARel E sg ι (.c (.agg l)) v) {u : AV}
    (hu : (bif b then Res.ok (Upd.pure (.ag l')) else match l' with | [y] => Res.ok (Upd.pure (.lf y)) | _ => Res.stuck).gives (Upd.pure u)) :
    ∃ z, (Instr.field t v k).run P w = .ok z w ∧ ARel E sg ι u z := by
  obtain ⟨⟨j, d, z, hj, hjs, _, _, _, _, hd, htd', hag⟩, _⟩ := hT.fact hi
  obtain ⟨gs, rfl, hfo⟩ := tdOk_struct htd' htd
  obtain ⟨f, jf, df, hf1, hf2, hf3, hf4, hf5, hf6⟩ := fields_get hfo hf
  obtain ⟨cs, rfl, hr⟩ := hv
  obtain ⟨hl', hle⟩ := seg_some hl
  have hf1' : gs[k]? = some f := by simpa using hf1
  have h1 := run_underlying hd w
  simp only at hf2 hf4 hf6
  cases b with
  | true =>
    simp only [cond_true] at hu
    have hu : Upd.pure u = _ := hu
    simp [Upd.pure] at hu
    subst hu
    have h2 := run_part_agg (w := w) hf3 hf5 hf6 cs off
    refine ⟨.agg (cs.extract off (off + jf.size)), ?_, cs.extract off (off + jf.size), rfl, ?_⟩
    · simp [Instr.field, h1, hf1', asAgg, hf2, h2]
    · rw [take_drop_extract, hf4, hl']
      exact (hr.drop off).take n
  | false =>
    simp only [cond_false] at hu
    split at hu
    · rename_i y
      have hu : Upd.pure u = _ := hu
      simp [Upd.pure] at hu
      subst hu
      have hr2 := (hr.drop off).take n
      rw [← hl'] at hr2
      obtain ⟨c, hc, hyc⟩ := hr2.get (i := 0) rfl
      have hc' : cs[off]? = some c := by
        have := drop_take_get hc
        simpa using this
      have h2 := run_part_one (w := w) hf5 hf6 cs off hc'
      exact ⟨c, by simp [Instr.field, h1, hf1', asAgg, hf2, h2], hyc⟩
    · exact hu.elim

/-! ### Elements -/
theorem asInt_rel {x : AV} {n : Int} {v : Value} (hn : asInt x = some n) (hv : ARel E sg ι x v) : ∃ k, v = .int k n := by
  unfold asInt at hn
  split at hn
  · rename_i k m
    injection hn with hn
    subst hn
    exact ⟨k, hv⟩
  · cases hn

theorem run_indexAt {t e : TypeId} {je : TypeInfo} {ad : Addr} {k : IntKind} {n : Int} {len cap : Nat} (hd : P.underlying t = some (.slice e)) (he : P.info? e = some je) (h0 : 0 ≤ n) (h1 : n < len) :
    (Instr.indexAt t (.slice (some ad) len cap) (.int k n)).run P w = .ok (.pointer (some (ad.add (n.toNat * je.size)))) w := by
  have e1 := run_underlying hd w
  have e2 := run_size he w
  simp [Instr.indexAt, asIntOf, e1, e2, h0, h1]

theorem step_indexAddr (hT : TyOk P T) (h : Inv E lk ι w) (hsub : ∀ o a, lk0 o = some a → lk o = some a) {t : TypeId} {x ix : AV} {v vi : Value} (hv : ARel E (sgOf lk) ι x v) (hvi : ARel E (sgOf lk) ι ix vi) {u : AV} (hu : (evIndexAddr T lk0 t x ix).gives u) :
    ∃ z, (Instr.indexAt t v vi).run P w = .ok z w ∧ ARel E (sgOf lk) ι u z := by
  unfold evIndexAddr at hu
  split at hu
  · rename_i i p n hi hn
    obtain ⟨⟨j, d, z, hj, hjs, _, _, _, _, hd, htd', hag⟩, _⟩ := hT.fact hi
    obtain ⟨k, rfl⟩ := asInt_rel hn hvi
    split at hu
    · rename_i e htd
      obtain rfl := tdOk_slice htd' htd
      split at hu
      · rename_i ei hei
        obtain ⟨⟨je, _, _, hje, hjes, _⟩, _⟩ := hT.fact hei
        split at hu
        · -- own
          rename_i o
          split at hu
          · rename_i e' t' xs ho
            have ho' := hsub _ _ ho
            cases hz : Nat.beq ei.size t'.sz with
            | false => rw [hz] at hu; exact hu.elim
            | true =>
              rw [hz] at hu
              obtain ⟨⟨hc1, hc2⟩, hu⟩ := hu
              subst hu
              have hsz := Nat.eq_of_beq_eq_true hz
              have hv' : v = ι.v o := hv t' xs.length (lens t' xs) (by simp [sgOf, ho', sig])
              have hob : RowRel w ι o e' t' xs := h.ob o _ ho'
              obtain ⟨cs, hcs⟩ := hob.owns
              rcases hcs.2 with ⟨hnil, hl⟩ | ⟨g, cap, cur, hg, _⟩
              · omega
              · subst hv'
                have hr := run_indexAt (w := w) (ad := ⟨g, 0, none⟩) (k := k) (cap := cap) hd hje hc1 hc2
                rw [← hg] at hr
                refine ⟨_, hr, ?_⟩
                intro t2 n2 ls2 hs
                simp [sgOf, ho', sig] at hs
                obtain ⟨rfl, rfl, _⟩ := hs
                refine ⟨by omega, g, _, cap, hg, ?_⟩
                rw [add_lit, hjes, hsz]
                simp
          · exact hu.elim
        · -- ro
          rename_i t' xs
          cases hz : Nat.beq ei.size t'.sz with
          | false => rw [hz] at hu; exact hu.elim
          | true =>
            rw [hz] at hu
            obtain ⟨⟨hc1, hc2⟩, hu⟩ := hu
            subst hu
            have hsz := Nat.eq_of_beq_eq_true hz
            obtain ⟨A, m, rfl, hm, hmx, hss⟩ := hv
            obtain ⟨ad, rfl, hS, hel⟩ := hss (by omega)
            have hr := run_indexAt (w := w) (ad := ad) (k := k) (cap := m) hd hje hc1 hc2
            refine ⟨_, hr, ?_⟩
            have hlt : n.toNat < xs.length := by omega
            obtain ⟨c, hcl, hsv, hcell⟩ := hel n.toNat _ (getD_get hlt t'.zero)
            refine ⟨_, c, rfl, hsv, by rw [add_block]; exact hS, fun j u hju => ?_⟩
            rw [Nat.zero_add] at hju
            rw [add_add, hjes, hsz]
            exact hcell j u hju
        · -- inn
          rename_i o i'
          split at hu
          · rename_i e' t' xs ho
            have ho' := hsub _ _ ho
            split at hu
            · rename_i a ys hin
              cases t' <;> simp [inner] at hin
              rename_i e2 a'
              obtain ⟨rfl, hin⟩ := hin
              cases hz : Nat.beq ei.size a'.sz with
              | false => rw [hz] at hu; exact hu.elim
              | true =>
                rw [hz] at hu
                obtain ⟨⟨hc1, hc2⟩, hu⟩ := hu
                subst hu
                have hin := eq_of_heq hin
                have hsz := Nat.eq_of_beq_eq_true hz
                obtain ⟨hi', hv'⟩ := hv (.list e2 a') xs.length (lens _ xs) (by simp [sgOf, ho', sig])
                have hob : RowRel w ι o e' (.list e2 a') xs := h.ob o _ ho'
                have hrow := hob.2.2.1 i' _ (getD_get hi' ([] : List (El a')))
                rw [List.getD_eq_getElem?_getD, hin] at hrow
                rcases hrow.2 with ⟨hnil, hl⟩ | ⟨g, cap, cur, hg, _⟩
                · omega
                · subst hv'
                  have hr := run_indexAt (w := w) (ad := ⟨g, 0, none⟩) (k := k) (cap := cap) hd hje hc1 hc2
                  rw [← hg] at hr
                  refine ⟨_, hr, ?_⟩
                  intro e3 b3 n3 ls3 hs
                  simp [sgOf, ho', sig] at hs
                  obtain ⟨⟨rfl, rfl⟩, rfl, rfl⟩ := hs
                  refine ⟨hi', ?_, g, _, cap, hg, ?_⟩
                  · have := lens_get e2 a' xs i'
                    rw [this, List.getD_eq_getElem?_getD, hin]
                    omega
                  · rw [add_lit, hjes, hsz]
                    simp
            · exact hu.elim
          · exact hu.elim
        · exact hu.elim
      · exact hu.elim
    · exact hu.elim
  · exact hu.elim
end

end Go.Proofs.Ytiooamodldgalaa.Abs
