/-
One operation that is no call, part nine: conversions, sets; and all of them in one law.
-/
import Derived.Test.YtiooamodldgalaaAbs12
namespace Go.Proofs.Ytiooamodldgalaa.Abs
open Go

section
variable {E : Ctx} {lk lk0 : Nat → Option AO} {ι : Im} {w w' : World} {P : Program} {T : Env} {sg : Nat → Option Sig}

/-! ### Conversions -/
theorem strOf_fold (xs : List Int) : xs.foldl (fun r n => r.push (UInt8.ofNat n.toNat)) ByteArray.empty = strOf xs := by
  have key : ∀ (xs : List Int) (s : ByteArray), xs.foldl (fun r n => r.push (UInt8.ofNat n.toNat)) s = ⟨(s.data.toList ++ xs.map fun n => UInt8.ofNat n.toNat).toArray⟩ := by
    intro xs
    induction xs with
    | nil => intro s; simp
    | cons x xs ih =>
      intro s
      rw [List.foldl_cons, ih]
      simp [ByteArray.push]
  rw [key]
  rfl

theorem flatV_u8 (xs : List Int) : flatV (.int .u8) xs = xs.map (Value.int .u8) := by
  induction xs with
  | nil => rfl
  | cons x xs ih =>
    show vals (.int .u8) x ++ flatV (.int .u8) xs = _
    rw [ih]
    rfl

theorem step_conv (hT : TyOk P T) (h : Inv E lk ι w) (hsub : ∀ o a, lk0 o = some a → lk o = some a) {s d : TypeId} {si di : TI} (hs : T.ti s = some si) (hd : T.ti d = some di) {x u : LV} {v : Value} (hx : LRel E (sgOf lk) ι x v) (hu : (evConv T lk0 si di x).gives u) :
    ∃ z, (convert s d v).run P w = .ok z w ∧ LRel E (sgOf lk) ι u z := by
  obtain ⟨⟨js, ds, _, _, _, _, _, _, _, hds, htds, _⟩, _⟩ := hT.fact hs
  obtain ⟨⟨jd, dd, _, _, _, _, _, _, _, hdd, htdd, _⟩, _⟩ := hT.fact hd
  have e1 := run_underlying hds w
  have e2 := run_underlying hdd w
  unfold evConv at hu
  split at hu
  · rename_i k1 k2 k3 n h1 h2
    obtain rfl := tdOk_int htds h1
    obtain rfl := tdOk_int htdd h2
    have hx : v = _ := hx
    have hu : u = _ := hu
    subst hx; subst hu
    exact ⟨_, by simp [convert, e1, e2, Conv.intToInt], rfl⟩
  · rename_i st h1 h2
    obtain rfl := tdOk_str htds h1
    obtain rfl := tdOk_str htdd h2
    have hx : v = _ := hx
    have hu : u = _ := hu
    subst hx; subst hu
    exact ⟨_, by simp [convert, e1, e2], rfl⟩
  · rename_i e h1 h2
    obtain rfl := tdOk_slice htds h1
    obtain rfl := tdOk_str htdd h2
    split at hu
    · rename_i ei hei
      obtain ⟨⟨je, de, _, _, _, _, _, _, _, hde, htde, _⟩, _⟩ := hT.fact hei
      split at hu
      · rename_i h3
        obtain rfl := tdOk_int htde h3
        split at hu
        · rename_i xs hxs
          have hu : u = _ := hu
          subst hu
          obtain ⟨A, c, rfl, hA⟩ := slcOf_holds h hsub hxs rfl hx
          have h0 := run_convert_bytes_string (P := P) w s d e A xs.length c hds hde hdd
          refine ⟨.string (strOf xs), ?_, rfl⟩
          rw [h0]
          cases A with
          | none =>
            have : xs = [] := by
              cases xs with
              | nil => rfl
              | cons x xs =>
                obtain ⟨ad, h', _⟩ := hA (by simp [flatV, vals])
                cases h'
            subst this
            simp [Conv.bytesToString]
            rfl
          | some a =>
            have hl : (loadCells a xs.length).run P w = .ok (xs.map (Value.int .u8)).toArray w := by
              have hc : ∀ (j : Nat) (u : Value), (xs.map (Value.int .u8))[j]? = some u → w.cell? (a.add j) = some u := by
                intro j u hj
                rw [← flatV_u8] at hj
                obtain ⟨ad, h', hcell⟩ := hA (by
                  have := (List.getElem?_eq_some_iff.1 hj).1
                  omega)
                injection h' with h'
                subst h'
                exact hcell j u hj
              have := run_loadCells_list (P := P) w a (xs.map (Value.int .u8)) hc
              rwa [List.length_map] at this
            rw [run_bytesToString w a xs.length c xs hl, strOf_fold]
        · exact hu.elim
      · exact hu.elim
    · exact hu.elim
  · exact hu.elim

/-! ### Sets -/
theorem tdOk_map {td : TD} {d : TypeDesc} (h : tdOk P td d = true) (htd : td = .map) : ∃ k e, d = .map k e ∧ P.underlying k = some (.int .i64) ∧ ∃ i, P.info? e = some i ∧ i.zero = some (.bool false) := by
  subst htd
  cases d <;> simp [tdOk] at h
  rename_i k e
  refine ⟨k, e, rfl, ?_, ?_⟩
  · have := h.1
    split at this
    · assumption
    · cases this
  · have := h.2
    split at this
    · rename_i i hi
      refine ⟨i, hi, ?_⟩
      split at this
      · assumption
      · cases this
    · cases this

theorem findNow_set (n : Int) : ∀ (ms : List MapEntry) (es : List Int) (i : Nat), ms.map (fun m => (m.key, m.val)) = es.map (fun n => (Value.int .i64 n, Value.bool true)) →
    (es.contains n = true → ∃ j e, Instr.findNow (.int .i64) (.int .i64 n) ms i = some (some (i + j, .bool true)) ∧ ms[j]? = some e ∧ e.key = .int .i64 n ∧ e.val = .bool true) ∧ (es.contains n = false → Instr.findNow (.int .i64) (.int .i64 n) ms i = some none)
  | [], [], i, _ => ⟨fun h => by simp at h, fun _ => rfl⟩
  | [], _ :: _, i, h => by simp at h
  | _ :: _, [], i, h => by simp at h
  | m :: ms, e :: es, i, h => by
    simp only [List.map_cons, List.cons.injEq, Prod.mk.injEq] at h
    obtain ⟨⟨hk, hv⟩, hr⟩ := h
    obtain ⟨ih1, ih2⟩ := findNow_set n ms es (i + 1) hr
    by_cases hne : n = e
    · subst hne
      refine ⟨fun _ => ⟨0, m, ?_, rfl, hk, hv⟩, fun h => by simp at h⟩
      simp [Instr.findNow, Instr.sameNow, hk, hv]
    · have hb : (n == e) = false := by simpa using hne
      refine ⟨fun hc => ?_, fun hc => ?_⟩
      · have hc' : es.contains n = true := by simpa [hne] using hc
        obtain ⟨j, x, h1, h2, h3, h4⟩ := ih1 hc'
        refine ⟨j + 1, x, ?_, by simpa using h2, h3, h4⟩
        simp only [Instr.findNow, Instr.sameNow, hk, if_true, hb]
        rw [h1]
        congr 3
        omega
      · have hc' : es.contains n = false := by
          simp at hc ⊢
          exact hc.2
        simp only [Instr.findNow, Instr.sameNow, hk, if_true, hb]
        exact ih2 hc'

theorem run_checkKey {k : TypeId} (hk : P.underlying k = some (.int .i64)) (b : Bool) (v : Value) (m : Nat) : (Instr.checkKey b (m + 1) k v).run P w = .ok () w := by
  simp [Instr.checkKey, run_underlying hk]

theorem step_lookup (hT : TyOk P T) (h : Inv E lk ι w) {t : TypeId} {i : TI} (hi : T.ti t = some i) (htd : i.td = .map) {p : Nat} {es : List Int} (hp : lk p = some (.mset es)) {n : Int} {vm : Value} (hm : LRel E (sgOf lk) ι (.mp p) vm) :
    (Instr.lookup t vm (.int .i64 n) false).run P w = .ok (.bool (es.contains n)) w := by
  obtain ⟨⟨j, d, z, hj, hjs, _, _, _, _, hd, htd', hag⟩, _⟩ := hT.fact hi
  obtain ⟨k, e, rfl, hk, je, hje, hjz⟩ := tdOk_map htd' htd
  obtain ⟨r, ms, cl, hv, hr, hms⟩ := h.ob p _ hp
  have hvm : vm = ι.v p := hm (by simp [sgOf, hp, sig])
  rw [hvm, hv]
  have e0 := run_underlying hd w
  have e1 := run_checkKey (P := P) (w := w) hk ms.isEmpty (.int .i64 n) 9999
  have e2 := run_zero hje hjz w
  have e3 := run_underlying hk w
  obtain ⟨f1, f2⟩ := findNow_set n ms.toList es 0 hms
  have hg : (getObj r).run P w = .ok (.map ms cl) w := by simp [getObj, Sem.run, hr]
  cases hc : es.contains n with
  | true =>
    obtain ⟨q, x, h1, _⟩ := f1 hc
    simp only [Instr.lookup, Sem.run_bind, e0, Result.andThen_ok, hg, Sem.run_pure, e1, Instr.findKey, e3, h1]
    rfl
  | false =>
    have h1 := f2 hc
    simp only [Instr.lookup, Sem.run_bind, e0, Result.andThen_ok, hg, Sem.run_pure, e1, Instr.findKey, e3, h1, e2]
    rfl

theorem sig_mset (es fs : List Int) : sig (.mset es) = sig (.mset fs) := rfl

theorem setMap (h : Inv E lk ι w) {p : Nat} {es fs : List Int} (hp : lk p = some (.mset es)) {r cl cl' : Nat} {ms ms' : Array MapEntry} (hv : ι.v p = .map (some r)) (hr : w.heap[r]? = some (.map ms cl))
    (hms : ms'.toList.map (fun m => (m.key, m.val)) = fs.map fun n => (Value.int .i64 n, Value.bool true)) :
    Inv E (upd lk p (some (.mset fs))) ι { w with heap := w.heap.setIfInBounds r (.map ms' cl') } ∧ sgOf (upd lk p (some (.mset fs))) = sgOf lk := by
  have hrs : r < w.heap.size := by
    rw [Array.getElem?_eq_some_iff] at hr
    exact hr.1
  refine h.set hp (sig_mset fs es) ?_ (fun k hk => hk) ?_ (by simp) rfl rfl rfl
  · refine ⟨r, ms', cl', hv, ?_, hms⟩
    simp [Array.getElem?_setIfInBounds, hrs]
  · intro k hk hf
    have hne : r ≠ k := by
      rintro rfl
      exact hf hv
    simp [Array.getElem?_setIfInBounds, hne]

theorem step_mapUpdate (hT : TyOk P T) (h : Inv E lk ι w) {t : TypeId} {i : TI} (hi : T.ti t = some i) (htd : i.td = .map) {p : Nat} {es : List Int} (hp : lk p = some (.mset es)) {n : Int} {vm : Value} (hm : LRel E (sgOf lk) ι (.mp p) vm) {b : Bool} :
    Step E lk ι ((do Instr.mapUpdate t vm (.int .i64 n) (.bool true); pure .skip : Sem Next).run P w) ⟨.lf .void, [(p, .mset (if es.contains n then es else es ++ [n]))], [], [], b⟩ := by
  obtain ⟨⟨j, d, z, hj, hjs, _, _, _, _, hd, htd', hag⟩, _⟩ := hT.fact hi
  obtain ⟨k, e, rfl, hk, je, hje, hjz⟩ := tdOk_map htd' htd
  obtain ⟨r, ms, cl, hv, hr, hms⟩ := h.ob p _ hp
  have hvm : vm = ι.v p := hm (by simp [sgOf, hp, sig])
  rw [hvm, hv]
  have e0 := run_underlying hd w
  have e1 := run_checkKey (P := P) (w := w) hk false (.int .i64 n) 9999
  have e3 := run_underlying hk w
  obtain ⟨f1, f2⟩ := findNow_set n ms.toList es 0 hms
  have hg : (getObj r).run P w = .ok (.map ms cl) w := by simp [getObj, Sem.run, hr]
  have hset : ∀ o : Obj, (setObj r o).run P w = .ok () { w with heap := w.heap.setIfInBounds r o } := by
    intro o
    simp [setObj, Sem.run, hr]
  cases hc : es.contains n with
  | true =>
    obtain ⟨q, x, h1, h2, h3, h4⟩ := f1 hc
    have h2' : ms[q]? = some x := by simpa using h2
    have hs : Instr.sameBits 10000 x.key (.int .i64 n) = true := by rw [h3]; simp [Instr.sameBits]
    have hsame : (ms.modify q fun e => { e with key := Value.int .i64 n, val := Value.bool true }).toList = ms.toList := by
      apply List.ext_getElem?
      intro a
      rw [Array.getElem?_toList, Array.getElem?_modify, Array.getElem?_toList]
      split
      · rename_i ha
        subst ha
        rw [h2']
        cases x
        simp at h3 h4
        simp [h3, h4]
      · rfl
    have := setMap (cl' := cl) (ms' := ms.modify q fun e => { e with key := Value.int .i64 n, val := Value.bool true }) h hp hv hr (fs := es) (by rw [hsame]; exact hms)
    refine Step.set (y := Go.undef) hp (.inr ⟨?_, rfl⟩) (by simpa [hc] using this) rfl
    simp only [Instr.mapUpdate, Sem.run_bind, e0, Result.andThen_ok, hg, Sem.run_pure, e1, Instr.findKey, e3, h1, Nat.zero_add, h2', Instr.keyThatStays, Option.map_some, Option.getD_some, hs, if_true, hset]
  | false =>
    have h1 := f2 hc
    have := setMap (cl' := cl + 1) (ms' := ms.push { key := .int .i64 n, val := .bool true, born := cl }) h hp hv hr (fs := es ++ [n]) (by simp [← hms])
    refine Step.set (y := Go.undef) hp (.inr ⟨?_, rfl⟩) (by simpa [hc] using this) rfl
    simp only [Instr.mapUpdate, Sem.run_bind, e0, Result.andThen_ok, hg, Sem.run_pure, e1, Instr.findKey, e3, h1, hset]

theorem step_makeMap (h : Inv E lk ι w) {dst : Option Tmp} {t : TypeId} (hn : lk (nid dst 0) = none) (hfr : ∀ o a, lk o = some a → nid dst 0 ∉ a.ids) {b : Bool} :
    Step E lk ι ((do pure (Next.value (← Instr.makeMap t none)) : Sem Next).run P w) ⟨.lf (.mp (nid dst 0)), [], [], [(nid dst 0, .mset [])], b⟩ := by
  refine Step.new (v := .map (some w.heap.size)) (g := ι.v2 (nid dst 0)) (w' := { w with heap := w.heap.push (.map #[] 0) }) (by simp [Instr.makeMap]) (h.new hn hfr ?_ ?_ (fun k hk => push_old _ k hk) (by simp) rfl rfl rfl) ?_
  · exact ⟨w.heap.size, #[], 0, (put_same ι _ _ _).1, push_new _, rfl⟩
  · intro k hk
    have hk : _ = _ := hk
    rw [(put_same ι _ _ _).1] at hk
    injection hk with hk; injection hk with hk
    subst hk
    simp
  · intro _
    exact (put_same ι _ _ _).1.symm
end

end Go.Proofs.Ytiooamodldgalaa.Abs
