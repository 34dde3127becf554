/-
The arena's places: the plain functions of the program and of the reference, in closed form; part 1.
-/
import Derived.Test.YtiooamodldgalaaPur0
import Derived.Test.YtiooamodldgalaaGenE
set_option linter.unusedVariables false
set_option linter.unusedSimpArgs false
namespace Go.Proofs.Ytiooamodldgalaa.Abs
open Go

abbrev Nd := Int × Int × Int × Int × Bool × Int
abbrev Z : Nd := (0, 0, 0, 0, false, 0)

def wto (x : Int) : Int := if 0 ≤ x ∧ x ≤ 19 then x / 2 else 0
def wmk (x : Int) : Bool := decide (0 ≤ x ∧ x ≤ 19 ∧ x % 2 = 1)
def ndOk (n : Nd) : Bool := decide (0 ≤ n.1 ∧ n.1 ≤ 99 ∧ 0 ≤ n.2.1 ∧ n.2.1 ≤ 999 ∧ 0 ≤ n.2.2.1 ∧ n.2.2.1 ≤ 19 ∧ 0 ≤ n.2.2.2.1 ∧ 0 ≤ n.2.2.2.2.2)
def hdOk (n : Nd) : Bool := decide (n.1 = 0 ∧ n.2.1 = 0 ∧ n.2.2.2.2.1 = true ∧ n.2.2.2.2.2 = 0 ∧ wmk n.2.2.1 = false)
def shp (a : List Nd) (t f l : Int) : Bool := decide (a.length = 10 ∧ 0 ≤ t ∧ t ≤ 9 ∧ 1 ≤ f ∧ f ≤ 9 ∧ 1 ≤ l ∧ l ≤ 9) && a.all ndOk && hdOk (a.getD 0 Z)

section
variable {k : Nat}
theorem s_l1In_v (x lo hi : Int) : s_l1In k x lo hi = some (decide (lo ≤ x ∧ x ≤ hi), ()) := by
  rw [s_l1In_eq]
  by_cases h : lo ≤ x <;> simp [h]
theorem s_WrdMark_v (x : Int) : s_WrdMark k x = some (wmk x, ()) := by
  rw [s_WrdMark_eq, s_l1In_v]
  by_cases h : 0 ≤ x ∧ x ≤ 19
  · have : Int.tmod x 2 = x % 2 := Int.tmod_eq_emod_of_nonneg h.1
    simp [h, wmk, this]
  · simp only [Option.bind_some, h, decide_false, Bool.false_eq_true, if_false, wmk]
    rw [decide_eq_false]
    omega
theorem s_WrdTo_v (x : Int) : s_WrdTo k x = some (wto x, ()) := by
  rw [s_WrdTo_eq, s_l1In_v]
  by_cases h : 0 ≤ x ∧ x ≤ 19
  · have : Int.tdiv x 2 = x / 2 := Int.tdiv_eq_ediv_of_nonneg h.1
    simp only [Option.bind_some, h, wto, this, and_self, decide_true, Bool.not_true, Bool.false_eq_true, if_false, if_true]
    rw [W_id] <;> omega
  · simp [h, wto]
theorem i_isKey_v (x : Int) : i_isKey k x = some (decide (0 ≤ x ∧ x ≤ 99), ()) := by
  rw [i_isKey_eq]
  by_cases h : 0 ≤ x <;> simp [h]
theorem i_isVal_v (x : Int) : i_isVal k x = some (decide (0 ≤ x ∧ x ≤ 999), ()) := by
  rw [i_isVal_eq]
  by_cases h : 0 ≤ x <;> simp [h]
theorem i_isWord_v (x : Int) : i_isWord k x = some (decide (0 ≤ x ∧ x ≤ 19), ()) := by
  rw [i_isWord_eq]
  by_cases h : 0 ≤ x <;> simp [h]
theorem i_WrdMark_v (x : Int) : i_WrdMark k x = some (wmk x, ()) := by
  rw [i_WrdMark_eq, i_isWord_v]
  by_cases h : 0 ≤ x ∧ x ≤ 19
  · have : Int.tmod x 2 = x % 2 := Int.tmod_eq_emod_of_nonneg h.1
    simp [h, wmk, this]
  · simp only [Option.bind_some, h, decide_false, Bool.false_eq_true, if_false, wmk]
    rw [decide_eq_false]
    omega
theorem i_WrdTo_v (x : Int) : i_WrdTo k x = some (wto x, ()) := by
  rw [i_WrdTo_eq, i_isWord_v]
  by_cases h : 0 ≤ x ∧ x ≤ 19
  · have : Int.tdiv x 2 = x / 2 := Int.tdiv_eq_ediv_of_nonneg h.1
    simp only [Option.bind_some, h, wto, this, and_self, decide_true, Bool.not_true, Bool.false_eq_true, if_false, if_true]
    rw [W_id] <;> omega
  · simp [h, wto]
theorem s_l2Node_v (n : Nd) : s_l2Node k n.1 n.2.1 n.2.2.1 n.2.2.2.1 n.2.2.2.2.1 n.2.2.2.2.2 = some (ndOk n, ()) := by
  rw [s_l2Node_eq]
  simp only [s_l1In_v, Option.bind_some, decide_eq_true_eq]
  unfold ndOk
  repeat' split
  all_goals (congr 2; first | (symm; rw [decide_eq_false]; omega) | (rw [decide_eq_decide]; omega))

theorem wto_range {x : Int} : 0 ≤ wto x ∧ wto x ≤ 9 := by
  unfold wto
  split <;> omega

/-! ### shape -/
theorem s_l2Shape_l4_v {a : List Nd} (ha : a.length = 10) {t f l : Int} : ∀ (m i n : Nat), i + m = 10 → m + 1 ≤ n → s_l2Shape_l4 k n (i : Int) a t f l = some ((a.drop i).all ndOk && decide (0 ≤ t ∧ t ≤ 9 ∧ 1 ≤ f ∧ f ≤ 9 ∧ 1 ≤ l ∧ l ≤ 9), ())
  | m, i, 0, _, h => by omega
  | 0, i, n + 1, hi, _ => by
    have : i = 10 := by omega
    subst this
    rw [s_l2Shape_l4_s, if_neg (by simp), List.drop_of_length_le (by omega)]
    simp only [s_l1In_v, Option.bind_some, decide_eq_true_eq, List.all_nil, Bool.true_and]
    repeat' split
    all_goals (congr 2; first | (symm; rw [decide_eq_false]; omega) | (rw [decide_eq_decide]; omega))
  | m + 1, i, n + 1, hi, hn => by
    rw [s_l2Shape_l4_s, if_pos (by simp; omega), if_pos (by omega), Int.toNat_natCast, W_succ (by omega), s_l2Node_v, drop_cons Z (by omega)]
    simp only [Option.bind_some, List.all_cons]
    rw [s_l2Shape_l4_v ha m (i + 1) n (by omega) (by omega)]
    cases ndOk (a.getD i Z) <;> simp

theorem s_l2Shape_v (hk : 2000000 ≤ k) (a : List Nd) (t f l : Int) : s_l2Shape k a t f l = some (shp a t f l, ()) := by
  rw [s_l2Shape_eq]
  by_cases ha : a.length = 10
  · rw [if_neg (by simp [ha])]
    have h0 : (0:Int) ≤ (0:Int) ∧ (0:Int) < (a.length : Int) := by omega
    simp only [if_pos h0, s_WrdMark_v, Option.bind_some]
    have := s_l2Shape_l4_v (k := k) ha (t := t) (f := f) (l := l) 10 0 k rfl (by omega)
    rw [show ((0 : Nat) : Int) = 0 from rfl] at this
    rw [this]
    unfold shp hdOk
    simp only [ha, true_and, List.drop_zero]
    generalize a.getD 0 Z = h
    obtain ⟨h1, h2, h3, h4, h5, h6⟩ := h
    cases h5 <;> by_cases e1 : h6 = 0 <;> by_cases e2 : h1 = 0 <;> by_cases e3 : h2 = 0 <;> cases e4 : wmk h3 <;> simp [e1, e2, e3, e4, Bool.and_comm]
  · rw [if_pos (by simp; omega)]
    simp [shp, ha]

theorem i_shaped_l4_v {a : List Nd} (ha : a.length = 10) {t f l : Int} : ∀ (m i n : Nat), i + m = 10 → m + 1 ≤ n → i_ArnArena_shaped_l4 k n a 10 (i : Int) a t f l = some ((a.drop i).all ndOk && hdOk (a.getD 0 Z), ())
  | m, i, 0, _, h => by omega
  | 0, i, n + 1, hi, _ => by
    have : i = 10 := by omega
    subst this
    rw [i_ArnArena_shaped_l4_s, if_neg (by simp), List.drop_of_length_le (by omega), if_pos (by omega)]
    simp only [i_WrdMark_v, Option.bind_some, List.all_nil, Bool.true_and]
    unfold hdOk
    generalize a.getD 0 Z = h
    obtain ⟨h1, h2, h3, h4, h5, h6⟩ := h
    cases h5 <;> by_cases e1 : h6 = 0 <;> by_cases e2 : h1 = 0 <;> by_cases e3 : h2 = 0 <;> cases e4 : wmk h3 <;> simp [e1, e2, e3, e4]
  | m + 1, i, n + 1, hi, hn => by
    rw [i_ArnArena_shaped_l4_s, if_pos (by simp; omega), if_pos (by omega), Int.toNat_natCast, W_succ (by omega), drop_cons Z (by omega)]
    simp only [i_isKey_v, i_isVal_v, i_isWord_v, Option.bind_some, List.all_cons]
    rw [i_shaped_l4_v ha m (i + 1) n (by omega) (by omega)]
    have e : ndOk (a.getD i Z) = decide (0 ≤ (a.getD i Z).1 ∧ (a.getD i Z).1 ≤ 99 ∧ 0 ≤ (a.getD i Z).2.1 ∧ (a.getD i Z).2.1 ≤ 999 ∧ 0 ≤ (a.getD i Z).2.2.1 ∧ (a.getD i Z).2.2.1 ≤ 19 ∧ 0 ≤ (a.getD i Z).2.2.2.1 ∧ 0 ≤ (a.getD i Z).2.2.2.2.2) := rfl
    rw [e]
    generalize a.getD i Z = h
    obtain ⟨h1, h2, h3, h4, h5, h6⟩ := h
    by_cases c : 0 ≤ h1 ∧ h1 ≤ 99 ∧ 0 ≤ h2 ∧ h2 ≤ 999 ∧ 0 ≤ h3 ∧ h3 ≤ 19 ∧ 0 ≤ h4 ∧ 0 ≤ h6
    · have c1 : ¬ h4 < 0 := by omega
      have c2 : ¬ h6 < 0 := by omega
      simp [c, c1, c2]
    · simp only [decide_eq_false c, Bool.false_and, Bool.not_eq_true', decide_eq_false_iff_not, decide_eq_true_eq]
      repeat' split
      all_goals first | rfl | (exfalso; omega)

theorem i_shaped_v (hk : 2000000 ≤ k) (a : List Nd) (t f l : Int) : i_ArnArena_shaped k a t f l = some (shp a t f l, ()) := by
  rw [i_ArnArena_shaped_eq]
  unfold shp
  by_cases c : a.length = 10 ∧ 0 ≤ t ∧ t ≤ 9 ∧ 1 ≤ f ∧ f ≤ 9 ∧ 1 ≤ l ∧ l ≤ 9
  · have := i_shaped_l4_v (k := k) c.1 (t := t) (f := f) (l := l) 10 0 k rfl (by omega)
    rw [show ((0 : Nat) : Int) = 0 from rfl] at this
    rw [if_neg (by simp; omega), if_neg (by simp; omega), if_neg (by simp; omega), if_neg (by simp; omega), if_neg (by simp; omega), if_neg (by simp; omega), if_neg (by simp; omega), c.1]
    rw [show ((10 : Nat) : Int) = 10 from rfl, this]
    simp [c]
  · simp only [decide_eq_false c, Bool.false_and, decide_eq_true_eq]
    repeat' split
    all_goals first | rfl | (exfalso; omega)
end
end Go.Proofs.Ytiooamodldgalaa.Abs
