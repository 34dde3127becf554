/-
One operation that is no call, part eight: literals, make, sets, conversions; all of them in one law.
-/
import Derived.Test.YtiooamodldgalaaAbs11
namespace Go.Proofs.Ytiooamodldgalaa.Abs
open Go

section
variable {E : Ctx} {lk lk0 : Nat → Option AO} {ι : Im} {w w' : World} {P : Program} {T : Env} {sg : Nat → Option Sig}

/-- A new row in a new block. -/
theorem new_row (h : Inv E lk ι w) {n : Nat} (hn : lk n = none) (hfr : ∀ o a, lk o = some a → n ∉ a.ids) {e : TypeId} {u : RT} (hf : u.flat = true) {xs : List (El u)} {m : Nat} (ho : w'.ownsRow 0 e u.sz (.slice (some ⟨w.heap.size, 0, none⟩) xs.length m) xs.length (flatV u xs)) (hg : w.grownBy w' none) :
    Inv E (upd lk n (some (.rows e u xs))) (ι.put n (.slice (some ⟨w.heap.size, 0, none⟩) xs.length m) (ι.v2 n)) w' := by
  refine h.new hn hfr ?_ ?_ (fun k hk => hg.block k hk (by simp)) hg.size hg.os hg.tape hg.output
  · show RowRel w' _ n e u xs
    rw [rowRel_flat hf, (put_same ι n _ _).1]
    exact ho
  · intro k hk
    simp only [fp, flat_isIn hf, (put_same ι n _ _).1] at hk
    rcases hk with hk | ⟨hk, _⟩
    · simp [Value.ownBlock] at hk
      subst hk
      exact ⟨Nat.le_refl _, (ho.lt _ rfl).2⟩
    · cases hk

theorem own_new {n : Nat} {e : TypeId} {t : RT} {xs : List (El t)} {v : Value} {g : Nat → Value} : ARel E (sgOf (upd lk n (some (.rows e t xs)))) (ι.put n v g) (.lf (.own n)) v := by
  intro t' m ls _
  exact (put_same ι n v g).1.symm

theorem madeCells_flat {t : RT} (hf : t.flat = true) {z : Array Value} (hz : z.toList = vals t t.zero) (n : Nat) : (madeCells z (n * t.sz)).toList = flatV t (List.replicate n t.zero) := by
  have hzs : z.size = t.sz := by rw [← Array.length_toList, hz, vals_len t _ hf]
  apply List.ext_getElem?
  intro q
  unfold madeCells flatV
  rw [Array.toList_map, Array.toList_range, List.getElem?_map]
  by_cases hq : q < n * t.sz
  · have hpos : 0 < t.sz := by
      rcases Nat.eq_zero_or_pos t.sz with h0 | h0
      · rw [h0] at hq; simp at hq
      · exact h0
    have hi : q / t.sz < n := by rw [Nat.div_lt_iff_lt_mul hpos]; exact hq
    have hk : q % t.sz < t.sz := Nat.mod_lt _ hpos
    have hqe : q = q / t.sz * t.sz + q % t.sz := by rw [Nat.mul_comm]; exact (Nat.div_add_mod q t.sz).symm
    have h1 : (List.range (n * t.sz))[q]? = some q := by rw [List.getElem?_range hq]
    rw [h1]
    have h2 : ((List.replicate n t.zero).flatMap (vals t))[q / t.sz * t.sz + q % t.sz]? = (vals t t.zero)[q % t.sz]? := fm_get (fun x => vals_len t x hf) (by rw [List.getElem?_replicate, if_pos hi]) hk
    rw [← hqe] at h2
    rw [h2, ← hz]
    have hlt : q % z.size < z.size := by rw [hzs]; exact hk
    simp only [Option.map_some]
    rw [hzs] at hlt ⊢
    have : q % t.sz < z.size := by omega
    simp [this]
  · have h1 : (List.range (n * t.sz))[q]? = none := by simp; omega
    rw [h1, List.getElem?_eq_none (by rw [fm_len (fun x => vals_len t x hf)]; simp; omega)]
    rfl

theorem rt_zero_vals {ei : TI} {u : RT} (h : rtOk T ei = true) (hu : ei.rt = some u) (hf : u.flat = true) {z : Value} (hz : z.cells.toList = ei.zero.map valOf) : z.cells.toList = vals u u.zero := by
  unfold rtOk at h
  rw [hu] at h
  cases u <;> simp only [Bool.and_eq_true] at h
  case list e a => simp [RT.flat] at hf
  all_goals
    have := (sameLvs_val h.2).1
    rw [hz, this]

theorem rt_list {ei : TI} {u : RT} (h : rtOk T ei = true) (hu : ei.rt = some u) (hf : u.flat = false) : ∃ e a, u = .list e a ∧ a.flat = true := by
  unfold rtOk at h
  rw [hu] at h
  cases u with
  | list e a =>
    simp only [Bool.and_eq_true] at h
    exact ⟨e, a, rfl, h.1.1.2⟩
  | _ =>
    simp only [Bool.and_eq_true] at h
    exact absurd h.1.1 (by rw [hf]; simp)

theorem rt_list_zero {ei : TI} {e : TypeId} {a : RT} (h : rtOk T ei = true) (hu : ei.rt = some (.list e a)) : ei.zero = [.nils] := by
  unfold rtOk at h
  rw [hu] at h
  simp only [Bool.and_eq_true] at h
  have := h.1.2
  split at this
  · assumption
  · cases this

/-- A new row of rows, all nil. -/
theorem new_nils (h : Inv E lk ι w) {n : Nat} (hn : lk n = none) (hfr : ∀ o a, lk o = some a → n ∉ a.ids) {e e2 : TypeId} {a : RT} (hf : a.flat = true) {k m : Nat} (ho : w'.ownsRow 0 e 1 (.slice (some ⟨w.heap.size, 0, none⟩) k m) k (List.replicate k (.slice none 0 0))) (hg : w.grownBy w' none) :
    Inv E (upd lk n (some (.rows e (.list e2 a) (List.replicate k ([] : List (El a)))))) (ι.put n (.slice (some ⟨w.heap.size, 0, none⟩) k m) (fun _ => .slice none 0 0)) w' := by
  refine h.new hn hfr ?_ ?_ (fun k hk => hg.block k hk (by simp)) hg.size hg.os hg.tape hg.output
  · show RowRel w' _ n e (.list e2 a) (List.replicate k ([] : List (El a)))
    refine ⟨hf, ?_, ?_, ?_, ?_⟩
    · rw [(put_same ι n _ _).1, (put_same ι n _ _).2]
      have e1 : (List.range (List.replicate k ([] : List (El a))).length).map (fun _ => Value.slice none 0 0) = List.replicate k (.slice none 0 0) := by
        rw [List.map_const', List.length_range, List.length_replicate]
      rw [e1, List.length_replicate]
      exact ho
    · intro i x hx
      rw [(put_same ι n _ _).2]
      have : x = [] := by
        rw [List.getElem?_replicate] at hx
        split at hx
        · injection hx with hx; exact hx.symm
        · cases hx
      subst this
      exact World.ownsRow_nil _ _ _ _
    · intro i k _ hk
      rw [(put_same ι n _ _).2] at hk
      simp [Value.ownBlock] at hk
    · intro i j k _ _ _ hk
      rw [(put_same ι n _ _).2] at hk
      simp [Value.ownBlock] at hk
  · intro k hk
    simp only [fp, (put_same ι n _ _).1, (put_same ι n _ _).2] at hk
    rcases hk with hk | ⟨_, _, _, hk⟩
    · simp [Value.ownBlock] at hk
      subst hk
      exact ⟨Nat.le_refl _, (ho.lt _ rfl).2⟩
    · simp [Value.ownBlock] at hk

theorem step_makeSlice (hT : TyOk P T) (h : Inv E lk ι w) {dst : Option Tmp} {t : TypeId} {len cap : AV} {vl vc : Value} (hl : ARel E (sgOf lk) ι len vl) (hc : ARel E (sgOf lk) ι cap vc) {u : Upd} (hu : (evMakeSlice T dst t len cap).gives u) (hn : lk (nid dst 0) = none) (hfr : ∀ o a, lk o = some a → nid dst 0 ∉ a.ids) :
    Step E lk ι ((do pure (Next.value (← Instr.makeSlice t vl vc)) : Sem Next).run P w) u := by
  unfold evMakeSlice at hu
  split at hu
  · rename_i e ut n m hel hln hcn
    obtain ⟨hd, ei, j, z, hei, hrt, hj, hjs, hjb, hjz, hzc, hzp, hrto⟩ := elemOf_some hT hel
    obtain ⟨kl, rfl⟩ := asInt_rel hln hl
    obtain ⟨kc, rfl⟩ := asInt_rel hcn hc
    have hlb : LB = 4294967296 := rfl
    have hml : maxLen = 9223372036854775807 := rfl
    cases hf : ut.flat with
    | true =>
      rw [hf] at hu
      obtain ⟨⟨h0, h1, rfl⟩, hu⟩ := hu
      subst hu
      obtain ⟨k, rfl⟩ := Int.eq_ofNat_of_zero_le h0
      have hk : k ≤ 4294967296 := by omega
      have hby : j.bytes * k ≤ 32768 * 4294967296 := Nat.mul_le_mul hjb hk
      obtain ⟨w', hr, ho, hg⟩ := run_make_full w 0 t e j z ut.sz hd hj hjz hjs kl kc k (by omega) (by omega) (Nat.zero_le _)
      rw [madeCells_flat hf (rt_zero_vals hrto hrt hf hzc)] at ho
      have ho' : w'.ownsRow 0 e ut.sz (.slice (some ⟨w.heap.size, 0, none⟩) (List.replicate k ut.zero).length k) (List.replicate k ut.zero).length (flatV ut (List.replicate k ut.zero)) := by simpa using ho
      refine Step.new (w' := w') (v := .slice (some ⟨w.heap.size, 0, none⟩) (List.replicate k ut.zero).length k) (g := ι.v2 (nid dst 0)) ?_ (new_row h hn hfr hf ho' hg) own_new
      simpa using v_run hr
    | false =>
      rw [hf] at hu
      obtain ⟨⟨h0, h1, rfl⟩, hu⟩ := hu
      subst hu
      obtain ⟨e2, a, rfl, haf⟩ := rt_list hrto hrt hf
      obtain ⟨k, rfl⟩ := Int.eq_ofNat_of_zero_le h0
      have hk : k ≤ 4294967296 := by omega
      have hby : j.bytes * k ≤ 32768 * 4294967296 := Nat.mul_le_mul hjb hk
      obtain ⟨w', hr, ho, hg⟩ := run_make_full w 0 t e j z 1 hd hj hjz hjs kl kc k (by omega) (by omega) (Nat.zero_le _)
      have hzn : z.cells.toList = [.slice none 0 0] := by
        rw [hzc, rt_list_zero hrto hrt]
        rfl
      have hzn' : z.cells = #[.slice none 0 0] := by rw [← Array.toArray_toList (xs := z.cells), hzn]
      rw [hzn', Nat.mul_one, toList_madeCells_one] at ho
      refine Step.new (w' := w') (v := .slice (some ⟨w.heap.size, 0, none⟩) k k) (g := fun _ => .slice none 0 0) (v_run hr) (new_nils h hn hfr haf ho hg) own_new
  · exact hu.elim

theorem unlv_cells {t : RT} {x : AV} {l : List LV} {y : El t} {v : Value} (hf : t.flat = true) (hc : x.cells? = some l) (hu : unlv t l = some (y, [])) (hv : ARel E sg ι x v) : v.cells.toList = vals t y := by
  rcases AV.cells_rel hc hv with h1 | ⟨z, rfl, hz, rfl⟩
  · exact unlv_all h1 hu
  · have := unlv_all (.single hz) hu
    have h1 : v.oneCell' = true := by
      have := vals_one t y
      rw [← ‹[v] = vals t y›] at this
      exact this v (by simp)
    rw [cells_of_one h1, this]

theorem fillR_sound {u : RT} (hf : u.flat = true) : ∀ {ps : List (Nat × AV)} {vs : List (Nat × Value)} {l xs : List (El u)} {cs : Array Value},
    F2 (fun (p : Nat × AV) (q : Nat × Value) => p.1 = q.1 ∧ ARel E sg ι p.2 q.2) ps vs → cs.toList = flatV u l → fillR u l ps = some xs →
    ∃ ds, Instr.fill (fun i => some (i * u.sz, u.sz)) cs vs = some ds ∧ ds.toList = flatV u xs ∧ xs.length = l.length
  | [], _, l, xs, cs, hps, hl, hr => by
    cases hps
    simp [fillR] at hr
    subst hr
    exact ⟨cs, rfl, hl, rfl⟩
  | (i, x) :: ps, vs, l, xs, cs, hps, hl, hr => by
    cases hps with
    | cons hq hqs =>
      rename_i q qs
      obtain ⟨i', v⟩ := q
      obtain ⟨rfl, hxv⟩ := hq
      simp only [fillR] at hr
      split at hr
      · rename_i new hnew
        split at hr
        · rename_i y hy
          cases hb : Nat.blt i l.length with
          | false => rw [hb] at hr; simp at hr
          | true =>
            rw [hb] at hr
            simp only [cond_true] at hr
            have hi : i < l.length := by
              have : i + 1 ≤ l.length := by simpa [Nat.blt] using hb
              omega
            have hcv := unlv_cells hf hnew hy hxv
            have hlen : v.cells.size = u.sz := by rw [← Array.length_toList, hcv, vals_len u _ hf]
            have hcs : cs.size = l.length * u.sz := by rw [← Array.length_toList, hl, flatV_len u l hf]
            have hle : i * u.sz + u.sz ≤ l.length * u.sz := by rw [← Nat.succ_mul]; exact Nat.mul_le_mul_right _ hi
            have hset := fold_set v.cells.toList cs (i * u.sz) 0 (by simp; omega)
            have hnext : (v.cells.zipIdx.foldl (fun cs (c, j) => cs.setIfInBounds (i * u.sz + j) c) cs).toList = flatV u (l.set i y) := by
              have e : (v.cells.zipIdx.foldl (fun (cs : Array Value) (x : Value × Nat) => cs.setIfInBounds (i * u.sz + x.2) x.1) cs).toList = cs.toList.take (i * u.sz) ++ v.cells.toList ++ cs.toList.drop (i * u.sz + v.cells.toList.length) := by
                simp only [Nat.add_zero] at hset
                rw [← hset, ← Array.foldl_toList]
                simp
              rw [e, hcv, hl, vals_len u _ hf]
              unfold flatV
              rw [fm_set (fun x => vals_len u x hf) hi, Nat.succ_mul]
            obtain ⟨ds, hds, hd2, hd3⟩ := fillR_sound hf hqs hnext hr
            refine ⟨ds, ?_, hd2, by rw [hd3]; simp⟩
            simp only [Instr.fill]
            rw [if_neg (by simp; omega)]
            exact hds
        · cases hr
      · cases hr

theorem run_buildSlice {t e : TypeId} {n : Nat} {j : TypeInfo} {z : Value} {ds : Array Value} {vps : Array (Nat × Value)} (hd : P.underlying t = some (.slice e)) (hj : P.info? e = some j) (hz : j.zero = some z) (hle : n * j.size ≤ 16777216)
    (hf : Instr.fill (fun i => some (i * j.size, j.size)) (madeCells z.cells (n * j.size)) vps.toList = some ds) :
    (Instr.buildSlice t n vps).run P w = .ok (.slice (some ⟨w.heap.size, 0, none⟩) n n) (w.alloc (.cells ds e)) := by
  have e0 := run_underlying hd w
  have e1 := run_size hj w
  have e2 := run_zero hj hz w
  have hle' : ¬ (n * j.size > 2 ^ 24) := by omega
  unfold Instr.buildSlice
  simp only [Sem.run_bind, e0, Result.andThen_ok, e1, if_neg hle', Sem.run_pure]
  by_cases h0 : n * j.size = 0
  · have hm : madeCells z.cells (n * j.size) = (Array.range (n * j.size)).map (fun q => (#[] : Array Value)[q % (#[] : Array Value).size]!) := by
      rw [h0]
      simp [madeCells]
    rw [hm] at hf
    simp only [if_pos h0, Sem.run_bind, Sem.run_pure, Result.andThen_ok]
    rw [hf]
    rfl
  · simp only [if_neg h0, Sem.run_bind, e2, Sem.run_pure, Result.andThen_ok]
    have hm : madeCells z.cells (n * j.size) = (Array.range (n * j.size)).map (fun q => z.cells[q % z.cells.size]!) := rfl
    rw [hm] at hf
    rw [hf]
    rfl

theorem solid_ids {x : LV} (hs : x.solid lk0 = true) : ∀ o ∈ x.ids, (lk0 o).isSome = true := by
  cases x <;> simp only [LV.ids, LV.solid] at hs ⊢ <;> try (intro o ho; cases ho; done)
  case ptr p f =>
    intro o ho
    rw [List.mem_singleton] at ho
    subst ho
    split at hs
    · rename_i hl; rw [hl]; rfl
    · cases hs
  case own p =>
    intro o ho
    rw [List.mem_singleton] at ho
    subst ho
    split at hs
    · rename_i hl; rw [hl]; rfl
    · cases hs
  case mp p =>
    intro o ho
    rw [List.mem_singleton] at ho
    subst ho
    split at hs
    · rename_i hl; rw [hl]; rfl
    · cases hs
  case fn f cs =>
    intro o ho
    have := List.all_eq_true.1 hs o ho
    split at this
    · rename_i hl; rw [hl]; rfl
    · cases this
  all_goals (cases hs)

theorem step_buildSlice (hT : TyOk P T) (h : Inv E lk ι w) (hsub : ∀ o a, lk0 o = some a → lk o = some a) {dst : Option Tmp} {t : TypeId} {n : Nat} {ps : Array (Nat × Operand)} {ρ : Operand → AV} {a : Operand → Value} (hρ : ∀ x, ARel E (sgOf lk) ι (ρ x) (a x)) {u : Upd}
    (hu : (evBuildSlice T lk0 dst t n (ps.toList.map fun p => (p.1, ρ p.2))).gives u) (hn : lk (nid dst 0) = none) (hfr : ∀ o a, lk o = some a → nid dst 0 ∉ a.ids) :
    Step E lk ι ((do pure (Next.value (← Instr.buildSlice t n (ps.map fun (i, x) => (i, a x)))) : Sem Next).run P w) u := by
  have hpairs := F2.map_pairs (ps := ps.toList) hρ
  have e4 : (ps.map fun (i, x) => (i, a x)).toList = ps.toList.map fun p => (p.1, a p.2) := by simp
  rw [← e4] at hpairs
  generalize (ps.map fun (i, x) => (i, a x)) = vps at hpairs ⊢
  generalize (ps.toList.map fun p => (p.1, ρ p.2)) = aps at hpairs hu
  unfold evBuildSlice at hu
  split at hu
  · -- rows of rows
    rename_i e e2 aT hel
    obtain ⟨hd, ei, j, z, hei, hrt, hj, hjs, hjb, hjz, hzc, hzp, hrto⟩ := elemOf_some hT hel
    split at hu
    · rename_i x
      split at hu
      · rename_i ys ds hdst
        have hu : u = _ := hu
        subst hu
        have haf : aT.flat = true := by
          obtain ⟨e', a', he, hfa⟩ := rt_list hrto hrt rfl
          injection he with _ he
          subst he
          exact hfa
        obtain ⟨v, hvps, hxv⟩ : ∃ v, vps.toList = [(0, v)] ∧ LRel E (sgOf lk) ι x v := by
          cases hvl : vps.toList with
          | nil => rw [hvl] at hpairs; cases hpairs
          | cons q qs =>
            rw [hvl] at hpairs
            cases hpairs with
            | cons h1 h2 =>
              cases h2
              obtain ⟨q1, q2⟩ := q
              obtain ⟨rfl, h1⟩ := h1
              exact ⟨q2, rfl, h1⟩
        have hdst' := appDst_some h hsub hdst hxv
        have hv1 : v.oneCell' = true := by
          rcases hdst' with ⟨rfl, _, _⟩ | ⟨o, _, ho, rfl⟩
          · rfl
          · exact h.oneR o _ _ _ ho
        have e0 := run_underlying hd w
        have e1 := run_size hj w
        have e2' := run_zero hj hjz w
        have hjs1 : j.size = 1 := hjs
        have hzn : z.cells.toList = [.slice none 0 0] := by
          rw [hzc, rt_list_zero hrto hrt]
          rfl
        have hzn' : z.cells = #[.slice none 0 0] := by rw [← Array.toArray_toList (xs := z.cells), hzn]
        have hvc : v.cells = #[v] := by
          have := cells_of_one hv1
          rw [← Array.toArray_toList (xs := v.cells), this]
        have hrun : (Instr.buildSlice t 1 vps).run P w = .ok (.slice (some ⟨w.heap.size, 0, none⟩) 1 1) (w.alloc (.cells #[v] e)) := by
          refine run_buildSlice hd hj hjz (by omega) ?_
          rw [hjs1, hvps, hzn', Nat.mul_one]
          have hm : madeCells #[Value.slice none 0 0] 1 = #[Value.slice none 0 0] := by
            rw [← Array.toArray_toList (xs := madeCells _ 1), toList_madeCells_one]
            rfl
          rw [hm]
          simp only [Instr.fill, hvc]
          rfl
        have hrow0 : (w.alloc (.cells #[v] e)).ownsRow 0 e 1 (.slice (some ⟨w.heap.size, 0, none⟩) 1 1) 1 [v] := by
          have := World.ownsRow_lit (base := 0) (e := e) (size := 1) w #[v] 1 (Nat.zero_le _) (by unfold maxLen; omega) rfl
          exact this
        have hblk : ∀ k, k < w.heap.size → (w.alloc (.cells #[v] e)).heap[k]? = w.heap[k]? := fun k hk => push_old _ k hk
        have hin : w.ownsRow 0 e2 aT.sz v ys.length (flatV aT ys) ∧ ∀ k, v.ownBlock = some k → ∃ o b, o ∈ ds ∧ lk o = some b ∧ fp ι o b k := by
          rcases hdst' with ⟨rfl, rfl, rfl⟩ | ⟨o, rfl, ho, rfl⟩
          · exact ⟨World.ownsRow_nil _ _ _ _, fun k hk => by simp [Value.ownBlock] at hk⟩
          · have hob : RowRel w ι o e2 aT ys := h.ob o _ ho
            exact ⟨(rowRel_flat haf).1 hob, fun k hk => ⟨o, _, by simp, ho, .inl hk⟩⟩
        have hlt : ∀ k, v.ownBlock = some k → k < w.heap.size := fun k hk => by
          obtain ⟨o, b, _, hl, hb⟩ := hin.2 k hk
          exact (h.bd o b k hl hb).1
        have hsz' : w.heap.size < (w.alloc (.cells #[v] e)).heap.size := by
          show w.heap.size < (w.heap.push _).size
          rw [Array.size_push]
          omega
        have hinv : Inv E (taken lk (nid dst 0) (.rows e (.list e2 aT) [ys]) ds) (ι.put (nid dst 0) (.slice (some ⟨w.heap.size, 0, none⟩) 1 1) (fun _ => v)) (w.alloc (.cells #[v] e)) := by
          refine h.take hn hfr ?_ ?_ (fun k hk _ => hblk k hk) (Nat.le_of_lt hsz') rfl rfl rfl
          · refine ⟨haf, ?_, ?_, ?_, ?_⟩
            · rw [(put_same ι _ _ _).1, (put_same ι _ _ _).2]
              exact hrow0
            · intro i x hx
              rw [(put_same ι _ _ _).2]
              have : x = ys := by
                cases i with
                | zero => injection hx with hx; exact hx.symm
                | succ i => cases i <;> cases hx
              subst this
              exact owns_move hin.1 fun k hk => hblk k (hlt k hk)
            · intro i k _ hk
              rw [(put_same ι _ _ _).2] at hk
              rw [(put_same ι _ _ _).1]
              have := hlt k hk
              intro e
              injection e with e
              have e : w.heap.size = k := e
              omega
            · intro i j k hi hj hne _
              have hi : i < 1 := hi
              have hj : j < 1 := hj
              omega
          · intro k hk
            simp only [fp, (put_same ι _ _ _).1, (put_same ι _ _ _).2] at hk
            rcases hk with hk | ⟨_, _, _, hk⟩
            · injection hk with hk
              have hk : w.heap.size = k := hk
              subst hk
              exact ⟨hsz', .inr (Nat.le_refl _)⟩
            · exact ⟨Nat.lt_of_lt_of_le (hlt k hk) (Nat.le_of_lt hsz'), .inl (hin.2 k hk)⟩
        exact Step.take (v_run hrun) hinv own_taken
      · exact hu.elim
    · split at hu
      · rename_i l hl
        cases hb : (Nat.ble n 4096 && l.all (LV.solid lk0)) with
        | false => rw [hb] at hu; exact hu.elim
        | true =>
          rw [hb] at hu
          have hu : u = _ := hu
          subst hu
          simp only [Bool.and_eq_true] at hb
          have hn4 := Nat.le_of_ble_eq_true hb.1
          have hjs1 : j.size = 1 := hjs
          have hzn : z.cells.toList = [.slice none 0 0] := by
            rw [hzc, rt_list_zero hrto hrt]
            rfl
          have hzn' : z.cells = #[.slice none 0 0] := by rw [← Array.toArray_toList (xs := z.cells), hzn]
          have hmade : F2 (LRel E (sgOf lk) ι) (List.replicate n LV.nils) (madeCells z.cells (n * 1)).toList := by
            rw [hzn', Nat.mul_one, toList_madeCells_one]
            exact F2.replicate n rfl
          obtain ⟨ds, hds, hr⟩ := fill_sound (place := fun i => some (i * j.size, j.size)) h hsub (fun i q hq => by
            rw [List.getElem?_map] at hq
            obtain ⟨m, hm, rfl⟩ := Option.map_eq_some_iff.1 hq
            rw [List.getElem?_range] at hm
            · injection hm with hm
              subst hm
              simp [hjs1]
            · have := (List.getElem?_eq_some_iff.1 hm).1
              simpa using this) hpairs hmade hl
          have hrun : (Instr.buildSlice t n vps).run P w = .ok (.slice (some ⟨w.heap.size, 0, none⟩) n n) (w.alloc (.cells ds e)) := by
            refine run_buildSlice hd hj hjz (by rw [hjs1]; omega) ?_
            rw [hjs1] at hds ⊢
            exact hds
          have hfx : nid dst 0 ∉ l.flatMap LV.ids := by
            intro hm
            obtain ⟨x, hx, hxi⟩ := List.mem_flatMap.1 hm
            have := solid_ids (List.all_eq_true.1 hb.2 x hx) _ hxi
            obtain ⟨b, hb'⟩ := Option.isSome_iff_exists.1 this
            have := hsub _ _ hb'
            rw [hn] at this
            cases this
          have hbx := new_box (t := e) h hn hfr hfx hr (solids h hsub hr hb.2)
          refine ⟨.slice (some ⟨w.heap.size, 0, none⟩) n n, { w with heap := w.heap.push (.cells ds e) }, _, .inl (v_run hrun), by rw [apl_new]; exact hbx, ?_, fun o ho => by rw [apl_new]; exact Fits.new (lku_one ho)⟩
          rw [apl_new]
          intro _
          exact ⟨w.heap.size, (put_same ι _ _ _).1, rfl⟩
      · exact hu.elim
  · rename_i e ut _ hel
    obtain ⟨hd, ei, j, z, hei, hrt, hj, hjs, hjb, hjz, hzc, hzp, hrto⟩ := elemOf_some hT hel
    cases hb : (ut.flat && Nat.ble n 4096 && Nat.ble (n * ut.sz) 16777216) with
    | false => rw [hb] at hu; exact hu.elim
    | true =>
      rw [hb] at hu
      simp only [Bool.and_eq_true] at hb
      obtain ⟨⟨hf, hb1⟩, hb2⟩ := hb
      have hb1 := Nat.le_of_ble_eq_true hb1
      have hb2 := Nat.le_of_ble_eq_true hb2
      simp only [cond_true] at hu
      split at hu
      · rename_i xs hxs
        have hu : u = _ := hu
        subst hu
        have e0 := run_underlying hd w
        have e1 := run_size hj w
        have e2' := run_zero hj hjz w
        have hzv := rt_zero_vals hrto hrt hf hzc
        have hmade := madeCells_flat hf hzv n
        obtain ⟨ds, hds, hd2, hd3⟩ := fillR_sound hf (cs := madeCells z.cells (n * ut.sz)) hpairs hmade hxs
        rw [List.length_replicate] at hd3
        have hrun : (Instr.buildSlice t n vps).run P w = .ok (.slice (some ⟨w.heap.size, 0, none⟩) n n) (w.alloc (.cells ds e)) := by
          refine run_buildSlice hd hj hjz (by rw [hjs]; omega) ?_
          rw [hjs]
          exact hds
        have hrow : (w.alloc (.cells ds e)).ownsRow 0 e ut.sz (.slice (some ⟨w.heap.size, 0, none⟩) xs.length n) xs.length (flatV ut xs) := by
          have := World.ownsRow_lit (base := 0) (e := e) (size := ut.sz) w ds n (Nat.zero_le _) (by simp [maxLen]; omega) (by rw [← Array.length_toList, hd2, flatV_len ut xs hf, hd3])
          rw [hd3, ← hd2]
          exact this
        refine Step.new (v := .slice (some ⟨w.heap.size, 0, none⟩) xs.length n) (g := ι.v2 (nid dst 0)) ?_ (new_row h hn hfr hf hrow (World.grownBy_alloc w _ none)) own_new
        rw [hd3]
        exact v_run hrun
      · exact hu.elim
  · exact hu.elim
end

end Go.Proofs.Ytiooamodldgalaa.Abs
