/-
The arena's places: the plain functions of the program and of the reference, in closed form; part 2: lists of places, what is ok, what is told.
-/
import Derived.Test.YtiooamodldgalaaArn1
set_option linter.unusedVariables false
set_option linter.unusedSimpArgs false
namespace Go.Proofs.Ytiooamodldgalaa.Abs
open Go

def wd (a : List Nd) (x : Int) : Int := (a.getD x.toNat Z).2.2.1
def nx (a : List Nd) (x : Int) : Int := wto (wd a x)
def frm (a : List Nd) : Nat → Int → List Int
  | 0, _ => []
  | n + 1, x => if x = 0 then [] else x :: frm a n (nx a x)

theorem nx_range {a : List Nd} {x : Int} : 0 ≤ nx a x ∧ nx a x ≤ 9 := wto_range
theorem frm_len (a : List Nd) : ∀ (n : Nat) (x : Int), (frm a n x).length ≤ n
  | 0, _ => Nat.le_refl _
  | n + 1, x => by
    unfold frm
    split
    · simp
    · have := frm_len a n (nx a x)
      simp; omega
theorem frm_mem {a : List Nd} : ∀ (n : Nat) {x : Int}, 0 ≤ x → x ≤ 9 → ∀ y ∈ frm a n x, 1 ≤ y ∧ y ≤ 9
  | 0, _, _, _, y, h => by simp [frm] at h
  | n + 1, x, h0, h1, y, h => by
    unfold frm at h
    split at h
    · simp at h
    · rcases List.mem_cons.1 h with rfl | h
      · omega
      · exact frm_mem n nx_range.1 nx_range.2 y h

section
variable {k : Nat} {a : List Nd}
theorem s_l2From_l4_v (ha : a.length = 10) {t f l : Int} : ∀ (m i n : Nat) (x : Int) (acc : List Int), i + m = 9 → acc.length = i → m + 1 ≤ n → 0 ≤ x → x ≤ 9 → s_l2From_l4 k n x (i : Int) a t f l acc = some (acc ++ frm a m x, ())
  | m, i, 0, _, _, _, _, h, _, _ => by omega
  | 0, i, n + 1, x, acc, hi, _, _, _, _ => by
    rw [s_l2From_l4_s, if_neg (by simp; omega)]
    simp [frm]
  | m + 1, i, n + 1, x, acc, hi, hl, hn, h0, h1 => by
    rw [s_l2From_l4_s, if_pos (by simp; omega)]
    unfold frm
    by_cases hx : x = 0
    · rw [if_neg (by simp; omega), if_pos hx]
      simp
    · rw [if_pos (by simp; omega), if_pos (by simp [LB_eq]; omega), if_pos (by omega), s_WrdTo_v, if_neg hx, W_succ (by omega)]
      simp only [Option.bind_some]
      have := s_l2From_l4_v ha (t := t) (f := f) (l := l) m (i + 1) n (nx a x) (acc ++ [x]) (by omega) (by simp [hl]) (by omega) nx_range.1 nx_range.2
      rw [show wto (List.getD a x.toNat ((0:Int), ((0:Int), ((0:Int), ((0:Int), (false, (0:Int))))))).2.2.1 = nx a x from rfl, this]
      simp
theorem s_l2From_v (hk : 2000000 ≤ k) (ha : a.length = 10) {t f l x : Int} (h0 : 0 ≤ x) (h1 : x ≤ 9) : s_l2From k a t f l x = some (frm a 9 x, ()) := by
  rw [s_l2From_eq]
  have := s_l2From_l4_v (k := k) ha (t := t) (f := f) (l := l) 9 0 k x [] rfl rfl (by omega) h0 h1
  simpa using this

theorem i_from_l2_v (ha : a.length = 10) {t f l : Int} : ∀ (m n : Nat) (x : Int) (acc : List Int), acc.length + m = 9 → m + 1 ≤ n → 0 ≤ x → x ≤ 9 → i_ArnArena_from_l2 k n x a t f l acc = some (acc ++ frm a m x, ())
  | m, 0, _, _, _, h, _, _ => by omega
  | 0, n + 1, x, acc, hi, _, _, _ => by
    rw [i_ArnArena_from_l2_s]
    by_cases hx : x = 0
    · rw [if_neg (by simp [hx])]
      simp [frm]
    · rw [if_pos (by simp [hx]), if_neg (by simp; omega)]
      simp [frm]
  | m + 1, n + 1, x, acc, hi, hn, h0, h1 => by
    rw [i_ArnArena_from_l2_s]
    unfold frm
    by_cases hx : x = 0
    · rw [if_neg (by simp [hx]), if_pos hx]
      simp
    · rw [if_pos (by simp [hx]), if_pos (by simp; omega), if_pos (by simp [LB_eq]; omega), if_pos (by omega), i_WrdTo_v, if_neg hx]
      simp only [Option.bind_some]
      have := i_from_l2_v ha (t := t) (f := f) (l := l) m n (nx a x) (acc ++ [x]) (by simp; omega) (by omega) nx_range.1 nx_range.2
      rw [show wto (List.getD a x.toNat ((0:Int), ((0:Int), ((0:Int), ((0:Int), (false, (0:Int))))))).2.2.1 = nx a x from rfl, this]
      simp
theorem i_from_v (hk : 2000000 ≤ k) (ha : a.length = 10) {t f l x : Int} (h0 : 0 ≤ x) (h1 : x ≤ 9) : i_ArnArena_from k a t f l x = some (frm a 9 x, ()) := by
  rw [i_ArnArena_from_eq]
  have := i_from_l2_v (k := k) ha (t := t) (f := f) (l := l) 9 k x [] rfl (by omega) h0 h1
  simpa using this

theorem shp_len {t f l : Int} (h : shp a t f l = true) : a.length = 10 ∧ 0 ≤ t ∧ t ≤ 9 ∧ 1 ≤ f ∧ f ≤ 9 ∧ 1 ≤ l ∧ l ≤ 9 := by
  unfold shp at h
  simp only [Bool.and_eq_true, decide_eq_true_eq] at h
  exact h.1.1

def chn (a : List Nd) : List Int := frm a 9 (nx a 0)
def stk (a : List Nd) (t : Int) : List Int := frm a 9 t
def chainOf (a : List Nd) (t f l : Int) : List Int := if shp a t f l then chn a else []
def stackOf (a : List Nd) (t f l : Int) : List Int := if shp a t f l then stk a t else []
def queueOf (a : List Nd) (t f l : Int) : List Int := if shp a t f l then stk a f else []

theorem s_ArnChain_v (hk : 2000000 ≤ k) (t f l : Int) : s_ArnChain k a t f l = some (chainOf a t f l, ()) := by
  rw [s_ArnChain_eq, s_l2Shape_v hk]
  unfold chainOf
  simp only [Option.bind_some]
  cases h : shp a t f l with
  | false => simp
  | true =>
    have := shp_len h
    rw [if_neg (by simp), if_pos (by omega), s_WrdTo_v]
    simp only [Option.bind_some, if_true]
    rw [s_l2From_v hk this.1 wto_range.1 wto_range.2]
    rfl
theorem s_ArnStacked_v (hk : 2000000 ≤ k) (t f l : Int) : s_ArnStacked k a t f l = some (stackOf a t f l, ()) := by
  rw [s_ArnStacked_eq, s_l2Shape_v hk]
  unfold stackOf
  simp only [Option.bind_some]
  cases h : shp a t f l with
  | false => simp
  | true =>
    have := shp_len h
    rw [if_neg (by simp), s_l2From_v hk this.1 (by omega) (by omega)]
    rfl
theorem s_ArnQueued_v (hk : 2000000 ≤ k) (t f l : Int) : s_ArnQueued k a t f l = some (queueOf a t f l, ()) := by
  rw [s_ArnQueued_eq, s_l2Shape_v hk]
  unfold queueOf
  simp only [Option.bind_some]
  cases h : shp a t f l with
  | false => simp
  | true =>
    have := shp_len h
    rw [if_neg (by simp), s_l2From_v hk this.1 (by omega) (by omega)]
    rfl
theorem i_ArnChain_v (hk : 2000000 ≤ k) (t f l : Int) : i_ArnChain k a t f l = some (chainOf a t f l, ()) := by
  rw [i_ArnChain_eq, i_shaped_v hk]
  unfold chainOf
  simp only [Option.bind_some]
  cases h : shp a t f l with
  | false => simp
  | true =>
    have := shp_len h
    rw [if_neg (by simp), if_pos (by omega), i_WrdTo_v]
    simp only [Option.bind_some, if_true]
    rw [i_from_v hk this.1 wto_range.1 wto_range.2]
    rfl
theorem i_ArnStacked_v (hk : 2000000 ≤ k) (t f l : Int) : i_ArnStacked k a t f l = some (stackOf a t f l, ()) := by
  rw [i_ArnStacked_eq, i_shaped_v hk]
  unfold stackOf
  simp only [Option.bind_some]
  cases h : shp a t f l with
  | false => simp
  | true =>
    have := shp_len h
    rw [if_neg (by simp), i_from_v hk this.1 (by omega) (by omega)]
    rfl
theorem i_ArnQueued_v (hk : 2000000 ≤ k) (t f l : Int) : i_ArnQueued k a t f l = some (queueOf a t f l, ()) := by
  rw [i_ArnQueued_eq, i_shaped_v hk]
  unfold queueOf
  simp only [Option.bind_some]
  cases h : shp a t f l with
  | false => simp
  | true =>
    have := shp_len h
    rw [if_neg (by simp), i_from_v hk this.1 (by omega) (by omega)]
    rfl

/-! ### ends -/
def lastI (l : List Int) : Int := l.getD (l.length - 1) 0
def endsB (a : List Nd) (l : List Int) : Bool := decide (l.length = 0 ∨ nx a (lastI l) = 0)
def In (l : List Int) : Prop := ∀ y ∈ l, 1 ≤ y ∧ y ≤ 9

theorem In.at {l : List Int} (h : In l) {i : Nat} (hi : i < l.length) : 1 ≤ l.getD i 0 ∧ l.getD i 0 ≤ 9 := by
  rw [getD_lt hi]
  exact h _ (List.getElem_mem hi)

theorem last_index {l : List Int} (hs : l.length ≤ 4000000) (h : l.length ≠ 0) : W ((l.length : Int) - 1) = ((l.length - 1 : Nat) : Int) := by
  rw [W_id] <;> omega

theorem i_ends_v (ha : a.length = 10) (t f l : Int) {q : List Int} (hq : In q) (hs : q.length ≤ 4000000) : i_ArnArena_ends k a t f l q = some (endsB a q, ()) := by
  rw [i_ArnArena_ends_eq]
  unfold endsB
  by_cases h : q.length = 0
  · simp [h]
  · have hl := hq.at (i := q.length - 1) (by omega)
    rw [last_index hs h, if_neg (by simp [h]), if_pos (by omega), Int.toNat_natCast, if_pos (by omega), i_WrdTo_v]
    simp only [Option.bind_some, h, false_or]
    rfl

def usedAt (a : List Nd) (x : Int) : Bool := (a.getD x.toNat Z).2.2.2.2.1
def keyAt (a : List Nd) (x : Int) : Int := (a.getD x.toNat Z).1

theorem s_l2Has_l2_v {l : List Int} {y : Int} (hs : l.length ≤ 2000000) : ∀ (m i n : Nat), i + m = l.length → m + 1 ≤ n → s_l2Has_l2 k n l y (i : Int) = some ((l.drop i).contains y, ())
  | m, i, 0, _, h => by omega
  | 0, i, n + 1, hi, _ => by
    rw [s_l2Has_l2_s, if_neg (by simp; omega), List.drop_of_length_le (by omega)]
    rfl
  | m + 1, i, n + 1, hi, hn => by
    rw [s_l2Has_l2_s, if_pos (by simp; omega), if_pos (by omega), Int.toNat_natCast, W_succ (by omega), s_l2Has_l2_v hs m (i + 1) n (by omega) (by omega), drop_cons (i := i) 0 (by omega)]
    rw [List.contains_cons]
    by_cases h : l.getD i 0 = y
    · rw [if_pos (by simp only [h, decide_true]), h]
      simp
    · have h' : (y == l.getD i 0) = false := by simp only [beq_eq_false_iff_ne]; exact fun e => h e.symm
      rw [if_neg (by simp only [h, decide_false]; simp), h', Bool.false_or]
theorem s_l2Has_v (hk : 2000000 ≤ k) {l : List Int} {y : Int} (hs : l.length ≤ 1000) : s_l2Has k l y = some (l.contains y, ()) := by
  rw [s_l2Has_eq]
  have := s_l2Has_l2_v (k := k) (l := l) (y := y) (by omega) l.length 0 k (by omega) (by omega)
  simpa using this

theorem s_l2Ends_l2_v (hk : 2000000 ≤ k) (ha : a.length = 10) {t f l : Int} {q o : List Int} (hq : In q) (hs : q.length ≤ 1000) (ho : o.length ≤ 1000) : ∀ (m i n : Nat), i + m = q.length → m + 1 ≤ n →
    s_l2Ends_l2 k n q o (i : Int) a t f l = some ((q.drop i).all (fun x => usedAt a x && !o.contains x) && endsB a q, ())
  | m, i, 0, _, h => by omega
  | 0, i, n + 1, hi, _ => by
    rw [s_l2Ends_l2_s, if_neg (by simp; omega), List.drop_of_length_le (by omega)]
    simp only [List.all_nil, Bool.true_and]
    unfold endsB
    by_cases h : q.length = 0
    · simp [h]
    · have hl := hq.at (i := q.length - 1) (by omega)
      rw [last_index (by omega) h, if_neg (by simp [h]), if_pos (by omega), Int.toNat_natCast, if_pos (by omega), s_WrdTo_v]
      simp only [Option.bind_some, h, false_or]
      rfl
  | m + 1, i, n + 1, hi, hn => by
    have hl := hq.at (i := i) (by omega)
    have hii : (0:Int) ≤ (i : Int) ∧ (i : Int) < (q.length : Int) := by omega
    rw [s_l2Ends_l2_s, if_pos (by simp; omega), if_pos hii, Int.toNat_natCast, if_pos (by omega), if_pos hii, W_succ (by omega), s_l2Ends_l2_v hk ha hq hs ho m (i + 1) n (by omega) (by omega), drop_cons (i := i) 0 (by omega), s_l2Has_v hk ho]
    simp only [Option.bind_some, List.all_cons]
    rw [show (List.getD a (q.getD i 0).toNat ((0:Int), ((0:Int), ((0:Int), ((0:Int), (false, (0:Int))))))).2.2.2.2.1 = usedAt a (q.getD i 0) from rfl]
    cases usedAt a (q.getD i 0) <;> cases o.contains (q.getD i 0) <;> simp
theorem s_l2Ends_v (hk : 2000000 ≤ k) (ha : a.length = 10) {t f l : Int} {q o : List Int} (hq : In q) (hs : q.length ≤ 1000) (ho : o.length ≤ 1000) : s_l2Ends k a t f l q o = some (q.all (fun x => usedAt a x && !o.contains x) && endsB a q, ()) := by
  rw [s_l2Ends_eq]
  have := s_l2Ends_l2_v hk ha (t := t) (f := f) (l := l) hq hs ho q.length 0 k (by omega) (by omega)
  simpa using this

def bareB (a : List Nd) (q : List Int) : Bool := q.all fun x => !wmk (wd a x)
theorem s_l2Bare_l2_v (ha : a.length = 10) {t f l : Int} {q : List Int} (hq : In q) (hs : q.length ≤ 1000) : ∀ (m i n : Nat), i + m = q.length → m + 1 ≤ n → s_l2Bare_l2 k n q (i : Int) a t f l = some (bareB a (q.drop i), ())
  | m, i, 0, _, h => by omega
  | 0, i, n + 1, hi, _ => by
    rw [s_l2Bare_l2_s, if_neg (by simp; omega), List.drop_of_length_le (by omega)]
    rfl
  | m + 1, i, n + 1, hi, hn => by
    have hl := hq.at (i := i) (by omega)
    rw [s_l2Bare_l2_s, if_pos (by simp; omega), if_pos (by omega), Int.toNat_natCast, if_pos (by omega), W_succ (by omega), s_l2Bare_l2_v ha hq hs m (i + 1) n (by omega) (by omega), drop_cons (i := i) 0 (by omega), s_WrdMark_v]
    simp only [Option.bind_some, bareB, List.all_cons]
    rw [show (List.getD a (q.getD i 0).toNat ((0:Int), ((0:Int), ((0:Int), ((0:Int), (false, (0:Int))))))).2.2.1 = wd a (q.getD i 0) from rfl]
    cases wmk (wd a (q.getD i 0)) <;> simp
theorem s_l2Bare_v (hk : 2000000 ≤ k) (ha : a.length = 10) {t f l : Int} {q : List Int} (hq : In q) (hs : q.length ≤ 1000) : s_l2Bare k a t f l q = some (bareB a q, ()) := by
  rw [s_l2Bare_eq]
  have := s_l2Bare_l2_v (k := k) ha (t := t) (f := f) (l := l) hq hs q.length 0 k (by omega) (by omega)
  simpa using this

def lastB (q : List Int) (l : Int) : Bool := decide (0 < q.length ∧ (q.getD (q.length - 1) 0 = l ∨ (1 < q.length ∧ q.getD (q.length - 2) 0 = l)))
theorem last2_index {l : List Int} (hs : l.length ≤ 4000000) (h : 1 < l.length) : W ((l.length : Int) - 2) = ((l.length - 2 : Nat) : Int) := by
  rw [W_id] <;> omega
theorem s_l2Last_v (t f l : Int) {q : List Int} (hs : q.length ≤ 1000) : s_l2Last k a t f l q = some (lastB q l, ()) := by
  rw [s_l2Last_eq]
  unfold lastB
  by_cases h : q.length = 0
  · simp [h]
  · rw [last_index (by omega) h, if_pos (by simp; omega), if_pos (by omega), Int.toNat_natCast]
    by_cases e : q.getD (q.length - 1) 0 = l
    · rw [if_pos (decide_eq_true e.symm)]
      simp only [e, true_or, and_true]
      rw [decide_eq_true (by omega)]
    · have e' : ¬ l = q.getD (q.length - 1) 0 := fun h => e h.symm
      rw [if_neg (by simpa using e')]
      by_cases h1 : 1 < q.length
      · rw [last2_index (by omega) h1, if_pos (by simp; omega), if_pos (by omega), Int.toNat_natCast]
        congr 2
        rw [decide_eq_decide]
        constructor
        · intro h2
          exact ⟨by omega, .inr ⟨h1, h2.symm⟩⟩
        · rintro ⟨_, h2 | h2⟩
          · exact absurd h2 e
          · exact h2.2.symm
      · rw [if_neg (by simp; omega)]
        congr 2
        symm
        rw [decide_eq_false]
        rintro ⟨_, h2 | h2⟩
        · exact e h2
        · exact h1 h2.1

def risesB (a : List Nd) : List Int → Bool
  | x :: y :: r => decide (keyAt a x < keyAt a y) && risesB a (y :: r)
  | _ => true
theorem rises_step {q : List Int} {i : Nat} (h : i + 1 < q.length) : risesB a (q.drop i) = (decide (keyAt a (q.getD i 0) < keyAt a (q.getD (i + 1) 0)) && risesB a (q.drop (i + 1))) := by
  rw [drop_cons 0 (show i < q.length by omega), drop_cons 0 h]
  rfl
theorem rises_end {q : List Int} {i : Nat} (h : q.length ≤ i + 1) : risesB a (q.drop i) = true := by
  have : (q.drop i).length ≤ 1 := by simp; omega
  match hd : q.drop i with
  | [] => rfl
  | [_] => rfl
  | _ :: _ :: _ => rw [hd] at this; simp at this

theorem s_ArnOk_l9_v (ha : a.length = 10) {t f l : Int} {q : List Int} (hq : In q) (hs : q.length ≤ 1000) : ∀ (m i n : Nat), i + m = q.length → m + 1 ≤ n → s_ArnOk_l9 k n ((i + 1 : Nat) : Int) a t f l q = some (risesB a (q.drop i), ())
  | m, i, 0, _, h => by omega
  | 0, i, n + 1, hi, _ => by
    rw [s_ArnOk_l9_s, if_neg (by simp; omega), rises_end (by omega)]
  | m + 1, i, n + 1, hi, hn => by
    rw [s_ArnOk_l9_s]
    by_cases h1 : i + 1 < q.length
    · have hl := hq.at (i := i) (by omega)
      have hl1 := hq.at (i := i + 1) h1
      have e : W (((i + 1 : Nat) : Int) - 1) = (i : Int) := by rw [W_id] <;> omega
      rw [if_pos (by simp; omega), e, if_pos (by omega), Int.toNat_natCast, if_pos (by omega), if_pos (by omega), Int.toNat_natCast, if_pos (by omega), W_succ (by omega), s_ArnOk_l9_v ha hq hs m (i + 1) n (by omega) (by omega), rises_step h1]
      have e1 : (List.getD a (q.getD i 0).toNat ((0:Int), ((0:Int), ((0:Int), ((0:Int), (false, (0:Int))))))).1 = keyAt a (q.getD i 0) := rfl
      have e2 : (List.getD a (q.getD (i + 1) 0).toNat ((0:Int), ((0:Int), ((0:Int), ((0:Int), (false, (0:Int))))))).1 = keyAt a (q.getD (i + 1) 0) := rfl
      rw [e1, e2]
      by_cases h : keyAt a (q.getD (i + 1) 0) ≤ keyAt a (q.getD i 0)
      · rw [if_pos (by simpa using h), decide_eq_false (by omega)]
        simp
      · rw [if_neg (by simpa using h), decide_eq_true (by omega)]
        simp
    · rw [if_neg (by simp; omega), rises_end (by omega)]
theorem i_ArnOk_l15_v (ha : a.length = 10) {t f l : Int} {q s u : List Int} (hq : In q) (hs : q.length ≤ 1000) : ∀ (m i n : Nat), i + m = q.length → m + 1 ≤ n →
    i_ArnOk_l15 k n ((i + 1 : Nat) : Int) a t f l q s u = (if risesB a (q.drop i) then (slices_Concat_int k [s, u]).bind fun y9 => i_ArnOk_l20 k k (List.length y9.1 : Int) (0:Int) a t f l u y9.1 else some (false, ()))
  | m, i, 0, _, h => by omega
  | 0, i, n + 1, hi, _ => by
    rw [i_ArnOk_l15_s, if_neg (by simp; omega), rises_end (by omega)]
    rfl
  | m + 1, i, n + 1, hi, hn => by
    rw [i_ArnOk_l15_s]
    by_cases h1 : i + 1 < q.length
    · have hl := hq.at (i := i) (by omega)
      have hl1 := hq.at (i := i + 1) h1
      have e : W (((i + 1 : Nat) : Int) - 1) = (i : Int) := by rw [W_id] <;> omega
      rw [if_pos (by simp; omega), e, if_pos (by omega), Int.toNat_natCast, if_pos (by omega), if_pos (by omega), Int.toNat_natCast, if_pos (by omega), W_succ (by omega), i_ArnOk_l15_v ha hq hs m (i + 1) n (by omega) (by omega), rises_step h1]
      have e1 : (List.getD a (q.getD i 0).toNat ((0:Int), ((0:Int), ((0:Int), ((0:Int), (false, (0:Int))))))).1 = keyAt a (q.getD i 0) := rfl
      have e2 : (List.getD a (q.getD (i + 1) 0).toNat ((0:Int), ((0:Int), ((0:Int), ((0:Int), (false, (0:Int))))))).1 = keyAt a (q.getD (i + 1) 0) := rfl
      rw [e1, e2]
      by_cases h : keyAt a (q.getD (i + 1) 0) ≤ keyAt a (q.getD i 0)
      · rw [if_pos (by simpa using h), decide_eq_false (by omega)]
        simp
      · rw [if_neg (by simpa using h), decide_eq_true (by omega)]
        simp
    · rw [if_neg (by simp; omega), rises_end (by omega)]
      rfl
end
end Go.Proofs.Ytiooamodldgalaa.Abs
