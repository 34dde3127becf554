/-
The arena's places: the plain functions of the program and of the reference, in closed form; part 3: what is ok is the same to both.
-/
import Derived.Test.YtiooamodldgalaaArn2
set_option linter.unusedVariables false
set_option linter.unusedSimpArgs false
namespace Go.Proofs.Ytiooamodldgalaa.Abs
open Go

section
variable {k : Nat} {a : List Nd}

/-! ### Lists joined -/
theorem slices_Grow_int_v {s : Nat} (hs : s ≤ 1000000) : slices_Grow_int k (s : Int) = some ([], ()) := by
  have e : W ((s : Int) - 0) = (s : Int) := by rw [W_id] <;> omega
  rw [slices_Grow_int_eq, if_neg (by simp), slices_Grow_int_j3_eq, e]
  by_cases h : 0 < s
  · rw [if_pos (by simp; omega), if_pos (by omega), if_pos (by simp [LB_eq]; omega), if_pos (by simp), slices_Grow_int_j6_eq]
    rfl
  · rw [if_neg (by simp; omega), slices_Grow_int_j6_eq]

theorem slices_Concat_int_l11_v {L : List (List Int)} (hL : L.length ≤ 1000) : ∀ (m i n : Nat) (acc : List Int), i + m = L.length → m + 1 ≤ n → acc.length + (L.drop i).flatten.length ≤ 1000000 → slices_Concat_int_l11 k n L (L.length : Int) (i : Int) acc = some (acc ++ (L.drop i).flatten, ())
  | m, i, 0, _, _, h, _ => by omega
  | 0, i, n + 1, acc, hi, _, _ => by
    rw [slices_Concat_int_l11_s, if_neg (by simp; omega), List.drop_of_length_le (by omega)]
    simp
  | m + 1, i, n + 1, acc, hi, hn, hs => by
    rw [drop_cons (i := i) [] (by omega)] at hs ⊢
    rw [List.flatten_cons] at hs ⊢
    rw [List.length_append] at hs
    rw [slices_Concat_int_l11_s, if_pos (by simp; omega), if_pos (by omega), Int.toNat_natCast, if_pos (by rw [LB_eq]; omega), W_succ (by omega), slices_Concat_int_l11_v hL m (i + 1) n _ (by omega) (by omega) (by rw [List.length_append]; omega), List.append_assoc]

theorem slices_Concat_int_l3_v (hk : 2000000 ≤ k) {L : List (List Int)} (hL : L.length ≤ 1000) (ht : L.flatten.length ≤ 1000000) : ∀ (m i n s : Nat), i + m = L.length → m + 1 ≤ n → s + (L.drop i).flatten.length = L.flatten.length → slices_Concat_int_l3 k n L (s : Int) L (L.length : Int) (i : Int) = some (L.flatten, ())
  | m, i, 0, _, _, h, _ => by omega
  | 0, i, n + 1, s, hi, _, hs => by
    rw [List.drop_of_length_le (by omega)] at hs
    rw [slices_Concat_int_l3_s, if_neg (by simp; omega), slices_Grow_int_v (by rw [List.flatten_nil, List.length_nil] at hs; omega)]
    simp only [Option.bind_some]
    have := slices_Concat_int_l11_v (k := k) hL L.length 0 k [] (by omega) (by omega) (by simpa using ht)
    simpa using this
  | m + 1, i, n + 1, s, hi, hn, hs => by
    rw [drop_cons (i := i) [] (by omega), List.flatten_cons, List.length_append] at hs
    have e : W ((s : Int) + ((L.getD i []).length : Int)) = ((s + (L.getD i []).length : Nat) : Int) := by rw [W_id] <;> omega
    rw [slices_Concat_int_l3_s, if_pos (by simp; omega), if_pos (by omega), Int.toNat_natCast, e, if_neg (by simp; omega), slices_Concat_int_j8_eq, W_succ (by omega), slices_Concat_int_l3_v hk hL ht m (i + 1) n _ (by omega) (by omega) (by omega)]

theorem slices_Concat_int_v (hk : 2000000 ≤ k) {L : List (List Int)} (hL : L.length ≤ 1000) (ht : L.flatten.length ≤ 1000000) : slices_Concat_int k L = some (L.flatten, ()) := by
  rw [slices_Concat_int_eq]
  exact slices_Concat_int_l3_v hk hL ht L.length 0 k 0 (by omega) (by omega) (by simp)

/-! ### The program's -/
def chk (a : List Nd) : List Int → List Int → Bool
  | _, [] => true
  | seen, x :: r => !seen.contains x && usedAt a x && chk a (seen ++ [x]) r

theorem i_ArnOk_l8_v (ha : a.length = 10) {t f l : Int} {q s u c : List Int} (hc : In c) (hs : c.length ≤ 1000) : ∀ (m i n : Nat) (seen : List Int), i + m = c.length → m + 1 ≤ n →
    i_ArnOk_l8 k n (c.length : Int) (i : Int) a t f l q s u seen c = (if chk a seen (c.drop i) then i_ArnOk_l15 k k (1:Int) a t f l q s u else some (false, ()))
  | m, i, 0, _, _, h => by omega
  | 0, i, n + 1, seen, hi, _ => by
    rw [i_ArnOk_l8_s, if_neg (by simp; omega), List.drop_of_length_le (by omega)]
    rfl
  | m + 1, i, n + 1, seen, hi, hn => by
    have hl := hc.at (i := i) (by omega)
    rw [i_ArnOk_l8_s, if_pos (by simp; omega), if_pos (by omega), Int.toNat_natCast, W_succ (by omega), drop_cons (i := i) 0 (by omega)]
    unfold chk
    cases h1 : seen.contains (c.getD i 0) with
    | true => rw [if_pos rfl]; simp
    | false =>
      rw [if_neg Bool.false_ne_true, if_pos (by omega), if_neg (c := false = true) Bool.false_ne_true]
      rw [show (List.getD a (c.getD i 0).toNat ((0:Int), ((0:Int), ((0:Int), ((0:Int), (false, (0:Int))))))).2.2.2.2.1 = usedAt a (c.getD i 0) from rfl]
      cases h2 : usedAt a (c.getD i 0) with
      | false => simp
      | true =>
        rw [if_neg (by simp), i_ArnOk_l8_v ha hc hs m (i + 1) n _ (by omega) (by omega)]
        simp

theorem i_ArnOk_l20_v (ha : a.length = 10) {t f l : Int} {u c : List Int} (hc : In c) (hs : c.length ≤ 1000) (hu : u.length ≠ 0) (hus : u.length ≤ 1000) : ∀ (m i n : Nat), i + m = c.length → m + 1 ≤ n →
    i_ArnOk_l20 k n (c.length : Int) (i : Int) a t f l u c = some (bareB a (c.drop i) && lastB u l, ())
  | m, i, 0, _, h => by omega
  | 0, i, n + 1, hi, _ => by
    rw [i_ArnOk_l20_s, if_neg (by simp; omega), List.drop_of_length_le (by omega), last_index (by omega) hu, if_pos (by omega), Int.toNat_natCast]
    simp only [bareB, List.all_nil, Bool.true_and]
    unfold lastB
    by_cases e : u.getD (u.length - 1) 0 = l
    · rw [if_pos (decide_eq_true e), decide_eq_true ⟨by omega, .inl e⟩]
    · rw [if_neg (by simpa using e)]
      by_cases h1 : 1 < u.length
      · rw [last2_index (by omega) h1, if_pos (by simp; omega), if_pos (by omega), Int.toNat_natCast]
        congr 2
        rw [decide_eq_decide]
        constructor
        · intro h2
          exact ⟨by omega, .inr ⟨h1, h2⟩⟩
        · rintro ⟨_, h2 | h2⟩
          · exact absurd h2 e
          · exact h2.2
      · rw [if_neg (by simp; omega), decide_eq_false]
        rintro ⟨_, h2 | h2⟩
        · exact e h2
        · exact h1 h2.1
  | m + 1, i, n + 1, hi, hn => by
    have hl := hc.at (i := i) (by omega)
    rw [i_ArnOk_l20_s, if_pos (by simp; omega), if_pos (by omega), Int.toNat_natCast, if_pos (by omega), W_succ (by omega), i_ArnOk_l20_v ha hc hs hu hus m (i + 1) n (by omega) (by omega), drop_cons (i := i) 0 (by omega), i_WrdMark_v]
    simp only [Option.bind_some, bareB, List.all_cons]
    rw [show (List.getD a (c.getD i 0).toNat ((0:Int), ((0:Int), ((0:Int), ((0:Int), (false, (0:Int))))))).2.2.1 = wd a (c.getD i 0) from rfl]
    cases wmk (wd a (c.getD i 0)) <;> simp

/-- What is ok, as the program has it. -/
def okA (a : List Nd) (t f l : Int) : Bool :=
  shp a t f l && (endsB a (chn a) && (endsB a (stk a t) && (endsB a (stk a f) && (chk a [] (chn a ++ stk a t ++ stk a f) && (risesB a (chn a) && (bareB a (stk a t ++ stk a f) && lastB (stk a f) l))))))

theorem In_frm {n : Nat} {x : Int} (h0 : 0 ≤ x) (h1 : x ≤ 9) : In (frm a n x) := frm_mem n h0 h1
theorem In_app {l m : List Int} (h : In l) (h' : In m) : In (l ++ m) := fun y hy => (List.mem_append.1 hy).elim (h y) (h' y)

theorem i_ArnOk_v (hk : 2000000 ≤ k) (t f l : Int) : i_ArnOk k a t f l = some (okA a t f l, ()) := by
  rw [i_ArnOk_eq, i_shaped_v hk]
  simp only [Option.bind_some]
  unfold okA
  cases h : shp a t f l with
  | false => simp
  | true =>
    obtain ⟨ha, ht0, ht1, hf0, hf1, hl0, hl1⟩ := shp_len h
    have c1 : chainOf a t f l = chn a := by unfold chainOf; rw [h]; rfl
    have c2 : stackOf a t f l = stk a t := by unfold stackOf; rw [h]; rfl
    have c3 : queueOf a t f l = stk a f := by unfold queueOf; rw [h]; rfl
    have i1 : In (chn a) := In_frm nx_range.1 nx_range.2
    have i2 : In (stk a t) := In_frm ht0 ht1
    have i3 : In (stk a f) := In_frm (by omega) hf1
    have l1 : (chn a).length ≤ 9 := frm_len a 9 _
    have l2 : (stk a t).length ≤ 9 := frm_len a 9 _
    have l3 : (stk a f).length ≤ 9 := frm_len a 9 _
    have hu : (stk a f).length ≠ 0 := by
      unfold stk frm
      rw [if_neg (by omega)]
      simp
    have f1 : [chn a, stk a t, stk a f].flatten = chn a ++ stk a t ++ stk a f := by simp
    have f2 : [stk a t, stk a f].flatten = stk a t ++ stk a f := by simp
    rw [if_neg (by simp), i_ArnChain_v hk, i_ArnStacked_v hk, i_ArnQueued_v hk, c1, c2, c3]
    simp only [Option.bind_some]
    rw [i_ends_v ha _ _ _ i1 (by omega)]
    simp only [Option.bind_some, Bool.true_and]
    cases endsB a (chn a) with
    | false => simp
    | true =>
    rw [if_neg (by simp), i_ends_v ha _ _ _ i2 (by omega)]
    simp only [Option.bind_some, Bool.true_and]
    cases endsB a (stk a t) with
    | false => simp
    | true =>
    rw [if_neg (by simp), i_ends_v ha _ _ _ i3 (by omega)]
    simp only [Option.bind_some, Bool.true_and]
    cases endsB a (stk a f) with
    | false => simp
    | true =>
    rw [if_neg (by simp), slices_Concat_int_v hk (by simp) (by rw [f1]; simp only [List.length_append]; omega), f1]
    simp only [Option.bind_some, Bool.true_and]
    have hlen : (chn a ++ stk a t ++ stk a f).length ≤ 1000 := by simp only [List.length_append]; omega
    have := i_ArnOk_l8_v (k := k) ha (t := t) (f := f) (l := l) (q := chn a) (s := stk a t) (u := stk a f) (In_app (In_app i1 i2) i3) hlen (chn a ++ stk a t ++ stk a f).length 0 k [] (by omega) (by omega)
    rw [show ((0 : Nat) : Int) = 0 from rfl] at this
    rw [this, List.drop_zero]
    cases chk a [] (chn a ++ stk a t ++ stk a f) with
    | false => simp
    | true =>
    have := i_ArnOk_l15_v (k := k) ha (t := t) (f := f) (l := l) (q := chn a) (s := stk a t) (u := stk a f) i1 (by omega) (chn a).length 0 k (by omega) (by omega)
    rw [show ((0 + 1 : Nat) : Int) = 1 from rfl] at this
    rw [if_pos rfl, this, List.drop_zero]
    cases risesB a (chn a) with
    | false => simp
    | true =>
    rw [if_pos rfl, slices_Concat_int_v hk (by simp) (by rw [f2]; simp only [List.length_append]; omega), f2]
    simp only [Option.bind_some, Bool.true_and]
    have hlen : (stk a t ++ stk a f).length ≤ 1000 := by simp only [List.length_append]; omega
    have := i_ArnOk_l20_v (k := k) ha (t := t) (f := f) (l := l) (u := stk a f) (In_app i2 i3) hlen hu (by omega) (stk a t ++ stk a f).length 0 k (by omega) (by omega)
    rw [show ((0 : Nat) : Int) = 0 from rfl] at this
    rw [this, List.drop_zero]

/-! ### No place comes twice in what ends -/
theorem frm_ends_grow : ∀ (j : Nat) (x : Int), frm a j x ≠ [] → nx a (lastI (frm a j x)) = 0 → ∀ i, frm a (j + i) x = frm a j x
  | 0, x, h, _, _ => absurd rfl h
  | j + 1, x, h, he, i => by
    rw [show j + 1 + i = (j + i) + 1 by omega]
    unfold frm at he ⊢
    by_cases hx : x = 0
    · simp [hx]
    · rw [if_neg hx] at he
      rw [if_neg hx, if_neg hx]
      congr 1
      by_cases h0 : frm a j (nx a x) = []
      · rw [h0] at he
        have he : nx a x = 0 := he
        rw [he]
        cases j with
        | zero =>
          cases i with
          | zero => rfl
          | succ i => rw [show 0 + (i + 1) = i + 1 by omega]; simp [frm]
        | succ j =>
          rw [show j + 1 + i = (j + i) + 1 by omega]
          simp [frm]
      · refine frm_ends_grow j (nx a x) h0 ?_ i
        rw [← he]
        congr 1
        unfold lastI
        obtain ⟨y, r, hr⟩ := List.exists_cons_of_ne_nil h0
        rw [hr]
        simp
theorem frm_suffix : ∀ (n : Nat) {x y : Int} {p r : List Int}, frm a n x = p ++ y :: r → frm a (n - p.length) y = y :: r
  | 0, x, y, p, r, h => by
    simp [frm] at h
  | n + 1, x, y, [], r, h => by
    have h' := h
    unfold frm at h
    split at h
    · cases h
    · injection h with h1 h2
      subst h1
      exact h'
  | n + 1, x, y, z :: p, r, h => by
    unfold frm at h
    split at h
    · cases h
    · injection h with h1 h2
      have := frm_suffix n h2
      rw [show n + 1 - (z :: p).length = n - p.length by simp]
      exact this
theorem lastI_app {p : List Int} {y : Int} {r : List Int} : lastI (p ++ y :: r) = lastI (y :: r) := by
  unfold lastI
  rw [List.getD_eq_getElem?_getD, List.getD_eq_getElem?_getD, List.getElem?_append_right (by simp)]
  congr 2
  simp
theorem frm_nodup : ∀ (n : Nat) {x : Int}, endsB a (frm a n x) = true → (frm a n x).Nodup := by
  intro n x h
  rw [List.nodup_iff_pairwise_ne]
  rw [List.pairwise_iff_forall_sublist]
  intro y z hs e
  subst e
  -- y comes twice: p ++ y :: r ++ y :: s
  have key : ∃ p r s, frm a n x = p ++ y :: (r ++ y :: s) := by
    clear h
    generalize frm a n x = L at hs
    induction L with
    | nil => cases hs
    | cons w L ih =>
      by_cases hw : w = y
      · subst hw
        have hm : w ∈ L := by
          cases hs with
          | cons _ hs => exact List.Sublist.mem (by simp) hs
          | cons_cons _ hs => exact List.Sublist.mem (by simp) hs
        obtain ⟨r, s, rfl⟩ := List.append_of_mem hm
        exact ⟨[], r, s, rfl⟩
      · cases hs with
        | cons _ hs =>
          obtain ⟨p, r, s, rfl⟩ := ih hs
          exact ⟨w :: p, r, s, rfl⟩
        | cons_cons _ hs => exact absurd rfl hw
  obtain ⟨p, r, s, hL⟩ := key
  have h1 := frm_suffix n hL
  have hL2 : frm a n x = (p ++ y :: r) ++ y :: s := by rw [hL]; simp
  have h2 := frm_suffix n hL2
  have hend : nx a (lastI (y :: s)) = 0 := by
    unfold endsB at h
    simp only [decide_eq_true_eq] at h
    rcases h with h | h
    · rw [hL] at h; simp at h
    · rw [hL2, lastI_app] at h
      exact h
  have hle : (p ++ y :: r).length ≤ n := by
    have := frm_len a n x
    rw [hL2, List.length_append] at this
    omega
  have h3 := frm_ends_grow (a := a) (n - (p ++ y :: r).length) y (by rw [h2]; simp) (by rw [h2]; exact hend) (r.length + 1)
  rw [h2] at h3
  have e : n - (p ++ y :: r).length + (r.length + 1) = n - p.length := by
    simp only [List.length_append, List.length_cons] at hle ⊢
    omega
  rw [e, h1] at h3
  have := congrArg List.length h3
  simp at this
  omega

theorem chk_iff : ∀ (l seen : List Int), chk a seen l = true ↔ (∀ x ∈ l, usedAt a x = true) ∧ l.Nodup ∧ ∀ x ∈ l, x ∉ seen
  | [], seen => by simp [chk]
  | x :: r, seen => by
    unfold chk
    rw [Bool.and_eq_true, Bool.and_eq_true, chk_iff r (seen ++ [x])]
    simp only [Bool.not_eq_true', List.contains_eq_mem, decide_eq_false_iff_not, List.mem_cons, forall_eq_or_imp, List.nodup_cons, List.mem_append, List.mem_singleton, not_or]
    constructor
    · rintro ⟨⟨h1, h2⟩, h3, h4, h5⟩
      exact ⟨⟨h2, h3⟩, ⟨fun hm => (h5 x hm).2.1 rfl, h4⟩, h1, fun y hy => (h5 y hy).1⟩
    · rintro ⟨⟨h2, h3⟩, ⟨h6, h4⟩, h1, h5⟩
      exact ⟨⟨h1, h2⟩, h3, h4, fun y hy => ⟨h5 y hy, fun e => h6 (e ▸ hy), List.not_mem_nil⟩⟩

/-! ### The reference's -/
def endsS (a : List Nd) (q o : List Int) : Bool := q.all (fun x => usedAt a x && !o.contains x) && endsB a q
def okS (a : List Nd) (t f l : Int) : Bool :=
  shp a t f l && (endsS a (chn a) [] && (endsS a (stk a t) (chn a) && (endsS a (stk a f) (chn a ++ stk a t) && (bareB a (stk a t) && (bareB a (stk a f) && (lastB (stk a f) l && risesB a (chn a)))))))

theorem s_ArnOk_v0 (hk : 2000000 ≤ k) (t f l : Int) : s_ArnOk k a t f l = some (okS a t f l, ()) := by
  rw [s_ArnOk_eq, s_l2Shape_v hk]
  simp only [Option.bind_some]
  unfold okS endsS
  cases h : shp a t f l with
  | false => simp
  | true =>
    obtain ⟨ha, ht0, ht1, hf0, hf1, hl0, hl1⟩ := shp_len h
    have c1 : chainOf a t f l = chn a := by unfold chainOf; rw [h]; rfl
    have c2 : stackOf a t f l = stk a t := by unfold stackOf; rw [h]; rfl
    have c3 : queueOf a t f l = stk a f := by unfold queueOf; rw [h]; rfl
    have i1 : In (chn a) := In_frm nx_range.1 nx_range.2
    have i2 : In (stk a t) := In_frm ht0 ht1
    have i3 : In (stk a f) := In_frm (by omega) hf1
    have l1 : (chn a).length ≤ 9 := frm_len a 9 _
    have l2 : (stk a t).length ≤ 9 := frm_len a 9 _
    have l3 : (stk a f).length ≤ 9 := frm_len a 9 _
    rw [if_neg (by simp), s_ArnChain_v hk, s_ArnStacked_v hk, s_ArnQueued_v hk, c1, c2, c3]
    simp only [Option.bind_some]
    rw [s_l2Ends_v hk ha i1 (by omega) (by simp)]
    simp only [Option.bind_some, Bool.true_and]
    generalize (((chn a).all fun x => usedAt a x && !List.contains [] x) && endsB a (chn a)) = b1
    cases b1 with
    | false => simp
    | true =>
    rw [if_neg (by simp), s_l2Ends_v hk ha i2 (by omega) (by omega)]
    simp only [Option.bind_some, Bool.true_and]
    generalize (((stk a t).all fun x => usedAt a x && !(chn a).contains x) && endsB a (stk a t)) = b2
    cases b2 with
    | false => simp
    | true =>
    rw [if_neg (by simp), if_pos (by rw [LB_eq]; simp; omega), if_pos (by rw [LB_eq]; simp; omega), List.nil_append, s_l2Ends_v hk ha i3 (by omega) (by simp; omega)]
    simp only [Option.bind_some, Bool.true_and]
    generalize (((stk a f).all fun x => usedAt a x && !(chn a ++ stk a t).contains x) && endsB a (stk a f)) = b3
    cases b3 with
    | false => simp
    | true =>
    rw [if_neg (by simp), s_l2Bare_v hk ha i2 (by omega)]
    simp only [Option.bind_some, Bool.true_and]
    cases bareB a (stk a t) with
    | false => simp
    | true =>
    rw [if_neg (by simp), s_l2Bare_v hk ha i3 (by omega)]
    simp only [Option.bind_some, Bool.true_and]
    cases bareB a (stk a f) with
    | false => simp
    | true =>
    rw [if_neg (by simp), s_l2Last_v _ _ _ (by omega)]
    simp only [Option.bind_some, Bool.true_and]
    cases lastB (stk a f) l with
    | false => simp
    | true =>
    have := s_ArnOk_l9_v (k := k) ha (t := t) (f := f) (l := l) i1 (by omega) (chn a).length 0 k (by omega) (by omega)
    rw [show ((0 + 1 : Nat) : Int) = 1 from rfl] at this
    rw [if_neg (by simp), this, List.drop_zero]
    simp

theorem ok_same (t f l : Int) : okS a t f l = okA a t f l := by
  rw [Bool.eq_iff_iff]
  unfold okS okA endsS
  simp only [Bool.and_eq_true, List.all_eq_true, chk_iff, Bool.not_eq_true', List.contains_eq_mem, decide_eq_false_iff_not, List.mem_append, List.nodup_append, bareB, List.not_mem_nil, not_false_eq_true, and_true, not_or, implies_true]
  constructor
  · rintro ⟨h1, ⟨h2, h3⟩, ⟨h4, h5⟩, ⟨h6, h7⟩, h8, h9, h10, h11⟩
    refine ⟨h1, h3, h5, h7, ⟨?_, ?_⟩, h11, ?_, h10⟩
    · rintro x ((hx | hx) | hx)
      · exact h2 x hx
      · exact (h4 x hx).1
      · exact (h6 x hx).1
    · refine ⟨⟨frm_nodup 9 h3, frm_nodup 9 h5, fun x hx y hy e => (h4 y hy).2 (e ▸ hx)⟩, frm_nodup 9 h7, ?_⟩
      rintro x (hx | hx) y hy e
      · exact (h6 y hy).2.1 (e ▸ hx)
      · exact (h6 y hy).2.2 (e ▸ hx)
    · rintro x (hx | hx)
      · exact h8 x hx
      · exact h9 x hx
  · rintro ⟨h1, h3, h5, h7, ⟨h2, ⟨_, _, h4⟩, _, h6⟩, h11, h8, h10⟩
    refine ⟨h1, ⟨fun x hx => h2 x (.inl (.inl hx)), h3⟩, ⟨fun x hx => ⟨h2 x (.inl (.inr hx)), fun hm => h4 x hm x hx rfl⟩, h5⟩, ⟨fun x hx => ⟨h2 x (.inr hx), fun hm => h6 x (.inl hm) x hx rfl, fun hm => h6 x (.inr hm) x hx rfl⟩, h7⟩, fun x hx => h8 x (.inl hx), fun x hx => h8 x (.inr hx), h10, h11⟩

theorem s_ArnOk_v (hk : 2000000 ≤ k) (t f l : Int) : s_ArnOk k a t f l = some (okA a t f l, ()) := by rw [s_ArnOk_v0 hk, ok_same]

/-! ### Values -/
def valsOf (a : List Nd) (q : List Int) : List Int := q.map fun x => (a.getD x.toNat Z).2.1

theorem s_l2Vals_l3_v (ha : a.length = 10) {t f l : Int} {q : List Int} (hq : In q) (hs : q.length ≤ 1000) : ∀ (m i n : Nat) (acc : List Int), i + m = q.length → m + 1 ≤ n → acc.length = i → s_l2Vals_l3 k n q (i : Int) a t f l acc = some (acc ++ valsOf a (q.drop i), ())
  | m, i, 0, _, _, h, _ => by omega
  | 0, i, n + 1, acc, hi, _, _ => by
    rw [s_l2Vals_l3_s, if_neg (by simp; omega), List.drop_of_length_le (by omega)]
    simp [valsOf]
  | m + 1, i, n + 1, acc, hi, hn, hl => by
    have hx := hq.at (i := i) (by omega)
    rw [s_l2Vals_l3_s, if_pos (by simp; omega), if_pos (by omega), Int.toNat_natCast, if_pos (by omega), if_pos (by rw [LB_eq]; simp; omega), W_succ (by omega), s_l2Vals_l3_v ha hq hs m (i + 1) n _ (by omega) (by omega) (by simp [hl]), drop_cons (i := i) 0 (by omega)]
    simp [valsOf]
theorem s_l2Vals_v (hk : 2000000 ≤ k) (ha : a.length = 10) {t f l : Int} {q : List Int} (hq : In q) (hs : q.length ≤ 1000) : s_l2Vals k a t f l q = some (valsOf a q, ()) := by
  rw [s_l2Vals_eq]
  have := s_l2Vals_l3_v (k := k) ha (t := t) (f := f) (l := l) hq hs q.length 0 k [] (by omega) (by omega) rfl
  simpa using this
theorem i_values_l3_v (ha : a.length = 10) {t f l : Int} {q : List Int} (hq : In q) (hs : q.length ≤ 1000) : ∀ (m i n : Nat) (acc : List Int), i + m = q.length → m + 1 ≤ n → acc.length = i → i_ArnArena_values_l3 k n q (q.length : Int) (i : Int) a t f l acc = some (acc ++ valsOf a (q.drop i), ())
  | m, i, 0, _, _, h, _ => by omega
  | 0, i, n + 1, acc, hi, _, _ => by
    rw [i_ArnArena_values_l3_s, if_neg (by simp; omega), List.drop_of_length_le (by omega)]
    simp [valsOf]
  | m + 1, i, n + 1, acc, hi, hn, hl => by
    have hx := hq.at (i := i) (by omega)
    rw [i_ArnArena_values_l3_s, if_pos (by simp; omega), if_pos (by omega), Int.toNat_natCast, if_pos (by omega), if_pos (by rw [LB_eq]; simp; omega), W_succ (by omega), i_values_l3_v ha hq hs m (i + 1) n _ (by omega) (by omega) (by simp [hl]), drop_cons (i := i) 0 (by omega)]
    simp [valsOf]
theorem i_values_v (hk : 2000000 ≤ k) (ha : a.length = 10) {t f l : Int} {q : List Int} (hq : In q) (hs : q.length ≤ 1000) : i_ArnArena_values k a t f l q = some (valsOf a q, ()) := by
  rw [i_ArnArena_values_eq]
  have := i_values_l3_v (k := k) ha (t := t) (f := f) (l := l) hq hs q.length 0 k [] (by omega) (by omega) rfl
  simpa using this

theorem okA_shp {t f l : Int} (h : okA a t f l = true) : shp a t f l = true := by
  unfold okA at h
  rw [Bool.and_eq_true] at h
  exact h.1
def stackVals (a : List Nd) (t f l : Int) : List Int := if okA a t f l then valsOf a (stk a t) else []
theorem stackVals_len (t f l : Int) : (stackVals a t f l).length ≤ 9 := by
  unfold stackVals
  split
  · simp only [valsOf, List.length_map]; exact frm_len a 9 t
  · simp
theorem s_ArnStack_v (hk : 2000000 ≤ k) (t f l : Int) : s_ArnStack k a t f l = some (stackVals a t f l, ()) := by
  rw [s_ArnStack_eq, s_ArnOk_v hk]
  unfold stackVals
  simp only [Option.bind_some]
  cases h : okA a t f l with
  | false => simp
  | true =>
    have hs := okA_shp h
    obtain ⟨ha, ht0, ht1, _⟩ := shp_len hs
    have c2 : stackOf a t f l = stk a t := by unfold stackOf; rw [hs]; rfl
    have l2 : (stk a t).length ≤ 9 := frm_len a 9 _
    rw [if_neg (by simp), s_ArnStacked_v hk, c2]
    simp only [Option.bind_some]
    rw [s_l2Vals_v hk ha (show In (stk a t) from In_frm ht0 ht1) (by omega)]
    rfl
theorem i_ArnStack_v (hk : 2000000 ≤ k) (t f l : Int) : i_ArnStack k a t f l = some (stackVals a t f l, ()) := by
  rw [i_ArnStack_eq, i_ArnOk_v hk]
  unfold stackVals
  simp only [Option.bind_some]
  cases h : okA a t f l with
  | false => simp
  | true =>
    have hs := okA_shp h
    obtain ⟨ha, ht0, ht1, _⟩ := shp_len hs
    have c2 : stackOf a t f l = stk a t := by unfold stackOf; rw [hs]; rfl
    have l2 : (stk a t).length ≤ 9 := frm_len a 9 _
    rw [if_neg (by simp), i_ArnStacked_v hk, c2]
    simp only [Option.bind_some]
    rw [i_values_v hk ha (show In (stk a t) from In_frm ht0 ht1) (by omega)]
    rfl
end
end Go.Proofs.Ytiooamodldgalaa.Abs
