/-
What is looked at was seen: the program's and the reference's, the same.
-/
import Derived.Test.YtiooamodldgalaaWldL
set_option linter.unusedVariables false
set_option linter.unusedSimpArgs false
namespace Go.Proofs.Ytiooamodldgalaa.Abs
open Go

section
variable {k : Nat}
theorem ite_some {α : Type} {c : Prop} [Decidable c] {A B : Option α} (h : ∃ r, A = some r) (h' : ∃ r, B = some r) : ∃ r, (if c then A else B) = some r := by
  by_cases hc : c
  · rw [if_pos hc]; exact h
  · rw [if_neg hc]; exact h'
set_option maxRecDepth 100000 in
theorem hndTouch_v (h : Hh) : ∃ r : Int × Int × Bool × Unit, i_HndTouch k h.1 h.2.1.1 h.2.1.2.1 h.2.1.2.2 h.2.2.1 h.2.2.2.1.1 h.2.2.2.1.2 h.2.2.2.2.1.1 h.2.2.2.2.1.2 h.2.2.2.2.2.1 h.2.2.2.2.2.2.1 h.2.2.2.2.2.2.2.1.1 h.2.2.2.2.2.2.2.1.2 h.2.2.2.2.2.2.2.2.1.1 h.2.2.2.2.2.2.2.2.1.2 h.2.2.2.2.2.2.2.2.2.1 h.2.2.2.2.2.2.2.2.2.2.1 h.2.2.2.2.2.2.2.2.2.2.2.1.1 h.2.2.2.2.2.2.2.2.2.2.2.1.2 h.2.2.2.2.2.2.2.2.2.2.2.2.1 h.2.2.2.2.2.2.2.2.2.2.2.2.2.1 h.2.2.2.2.2.2.2.2.2.2.2.2.2.2.1 h.2.2.2.2.2.2.2.2.2.2.2.2.2.2.2.1 h.2.2.2.2.2.2.2.2.2.2.2.2.2.2.2.2.1 h.2.2.2.2.2.2.2.2.2.2.2.2.2.2.2.2.2 = some r ∧ s_HndTouch k h.1 h.2.1.1 h.2.1.2.1 h.2.1.2.2 h.2.2.1 h.2.2.2.1.1 h.2.2.2.1.2 h.2.2.2.2.1.1 h.2.2.2.2.1.2 h.2.2.2.2.2.1 h.2.2.2.2.2.2.1 h.2.2.2.2.2.2.2.1.1 h.2.2.2.2.2.2.2.1.2 h.2.2.2.2.2.2.2.2.1.1 h.2.2.2.2.2.2.2.2.1.2 h.2.2.2.2.2.2.2.2.2.1 h.2.2.2.2.2.2.2.2.2.2.1 h.2.2.2.2.2.2.2.2.2.2.2.1.1 h.2.2.2.2.2.2.2.2.2.2.2.1.2 h.2.2.2.2.2.2.2.2.2.2.2.2.1 h.2.2.2.2.2.2.2.2.2.2.2.2.2.1 h.2.2.2.2.2.2.2.2.2.2.2.2.2.2.1 h.2.2.2.2.2.2.2.2.2.2.2.2.2.2.2.1 h.2.2.2.2.2.2.2.2.2.2.2.2.2.2.2.2.1 h.2.2.2.2.2.2.2.2.2.2.2.2.2.2.2.2.2 = some r := by
  have e : s_HndTouch k h.1 h.2.1.1 h.2.1.2.1 h.2.1.2.2 h.2.2.1 h.2.2.2.1.1 h.2.2.2.1.2 h.2.2.2.2.1.1 h.2.2.2.2.1.2 h.2.2.2.2.2.1 h.2.2.2.2.2.2.1 h.2.2.2.2.2.2.2.1.1 h.2.2.2.2.2.2.2.1.2 h.2.2.2.2.2.2.2.2.1.1 h.2.2.2.2.2.2.2.2.1.2 h.2.2.2.2.2.2.2.2.2.1 h.2.2.2.2.2.2.2.2.2.2.1 h.2.2.2.2.2.2.2.2.2.2.2.1.1 h.2.2.2.2.2.2.2.2.2.2.2.1.2 h.2.2.2.2.2.2.2.2.2.2.2.2.1 h.2.2.2.2.2.2.2.2.2.2.2.2.2.1 h.2.2.2.2.2.2.2.2.2.2.2.2.2.2.1 h.2.2.2.2.2.2.2.2.2.2.2.2.2.2.2.1 h.2.2.2.2.2.2.2.2.2.2.2.2.2.2.2.2.1 h.2.2.2.2.2.2.2.2.2.2.2.2.2.2.2.2.2 = i_HndTouch k h.1 h.2.1.1 h.2.1.2.1 h.2.1.2.2 h.2.2.1 h.2.2.2.1.1 h.2.2.2.1.2 h.2.2.2.2.1.1 h.2.2.2.2.1.2 h.2.2.2.2.2.1 h.2.2.2.2.2.2.1 h.2.2.2.2.2.2.2.1.1 h.2.2.2.2.2.2.2.1.2 h.2.2.2.2.2.2.2.2.1.1 h.2.2.2.2.2.2.2.2.1.2 h.2.2.2.2.2.2.2.2.2.1 h.2.2.2.2.2.2.2.2.2.2.1 h.2.2.2.2.2.2.2.2.2.2.2.1.1 h.2.2.2.2.2.2.2.2.2.2.2.1.2 h.2.2.2.2.2.2.2.2.2.2.2.2.1 h.2.2.2.2.2.2.2.2.2.2.2.2.2.1 h.2.2.2.2.2.2.2.2.2.2.2.2.2.2.1 h.2.2.2.2.2.2.2.2.2.2.2.2.2.2.2.1 h.2.2.2.2.2.2.2.2.2.2.2.2.2.2.2.2.1 h.2.2.2.2.2.2.2.2.2.2.2.2.2.2.2.2.2 := by
    rw [s_HndTouch_eq, i_HndTouch_eq]
    simp only [s_HndTouch_j24_eq, i_HndTouch_j24_eq]
  rw [e]
  have : ∃ r : Int × Int × Bool × Unit, i_HndTouch k h.1 h.2.1.1 h.2.1.2.1 h.2.1.2.2 h.2.2.1 h.2.2.2.1.1 h.2.2.2.1.2 h.2.2.2.2.1.1 h.2.2.2.2.1.2 h.2.2.2.2.2.1 h.2.2.2.2.2.2.1 h.2.2.2.2.2.2.2.1.1 h.2.2.2.2.2.2.2.1.2 h.2.2.2.2.2.2.2.2.1.1 h.2.2.2.2.2.2.2.2.1.2 h.2.2.2.2.2.2.2.2.2.1 h.2.2.2.2.2.2.2.2.2.2.1 h.2.2.2.2.2.2.2.2.2.2.2.1.1 h.2.2.2.2.2.2.2.2.2.2.2.1.2 h.2.2.2.2.2.2.2.2.2.2.2.2.1 h.2.2.2.2.2.2.2.2.2.2.2.2.2.1 h.2.2.2.2.2.2.2.2.2.2.2.2.2.2.1 h.2.2.2.2.2.2.2.2.2.2.2.2.2.2.2.1 h.2.2.2.2.2.2.2.2.2.2.2.2.2.2.2.2.1 h.2.2.2.2.2.2.2.2.2.2.2.2.2.2.2.2.2 = some r := by
    rw [i_HndTouch_eq]
    simp only [i_HndTouch_j24_eq]
    repeat' (first | exact ⟨_, rfl⟩ | apply ite_some)
  obtain ⟨r, hr⟩ := this
  exact ⟨r, hr, hr⟩
theorem audTouch_v (a : List Nd) (t f z e : Int) (p : List Int) (hs : List Hh) (c : Int) (lg : List Lr) (x : Int) (l : List (List Po)) :
    ∃ b : Bool, s_AudTouch k a t f z e p hs c lg x l = some (b, l, ()) ∧ i_AudTouch k a t f z e p hs c lg x l = some (b, l, ()) := by
  obtain ⟨r, e1, e2⟩ := hndTouch_v (k := k) (hs.getD x.toNat HhZ)
  obtain ⟨r1, r2, b, u⟩ := r
  refine ⟨decide (hs.length = 3) && (decide (a.length = 10) && (decide (0 ≤ x ∧ x ≤ 2) && (!b || (decide (0 ≤ r1 ∧ r1 ≤ 9) && ((a.getD r1.toNat Z).2.2.2.2.1 && decide ((a.getD r1.toNat Z).2.2.2.2.2 = r2)))))), ?_, ?_⟩
  · rw [s_AudTouch_eq]
    by_cases h3 : hs.length = 3
    · rw [if_neg (by rw [h3]; simp)]
      by_cases h10 : a.length = 10
      · rw [if_neg (by rw [h10]; simp), s_l1In_v]
        simp only [Option.bind_some]
        by_cases hx : 0 ≤ x ∧ x ≤ 2
        · rw [if_neg (by simp [hx]), if_pos (by omega), e2]
          simp only [Option.bind_some]
          cases b with
          | false => simp [h3, h10, hx]
          | true =>
            rw [if_neg (by simp), s_l4Ref_eq, s_l1In_v]
            simp only [Option.bind_some]
            by_cases hr : 0 ≤ r1 ∧ r1 ≤ 9
            · have hr' : (0:Int) ≤ r1 ∧ r1 < (a.length : Int) := by omega
              rw [if_pos (by simp [hr]), if_pos hr', if_pos hr']
              generalize List.getD a r1.toNat Z = q
              obtain ⟨q1, q2, q3, q4, q5, q6⟩ := q
              cases q5 <;> simp [h3, h10, hx, hr]
            · rw [if_neg (by simpa using hr)]
              simp [hr]
        · rw [if_pos (by rw [decide_eq_false hx]; rfl)]
          simp only [decide_eq_false hx, Bool.false_and, Bool.and_false]
      · rw [if_pos (by simp; omega)]
        simp only [decide_eq_false h10, Bool.false_and, Bool.and_false]
    · rw [if_pos (by simp; omega)]
      simp only [decide_eq_false h3, Bool.false_and]
  · rw [i_AudTouch_eq]
    by_cases h3 : hs.length = 3
    · rw [if_neg (by rw [h3]; simp)]
      by_cases h10 : a.length = 10
      · rw [if_neg (by rw [h10]; simp), i_WldWorld_hasHand_eq]
        by_cases hx : 0 ≤ x ∧ x ≤ 2
        · have hx3 : x < (hs.length : Int) := by omega
          rw [if_pos (by simp [hx])]
          simp only [Option.bind_some, decide_eq_true hx3]
          rw [if_neg (by simp), if_pos (by omega), e1]
          simp only [Option.bind_some]
          cases b with
          | false => simp [h3, h10, hx]
          | true =>
            rw [if_neg (by simp), i_WldWorld_holds_eq]
            by_cases hr : 0 ≤ r1 ∧ r1 ≤ 9
            · have hr' : (0:Int) ≤ r1 ∧ r1 < (a.length : Int) := by omega
              rw [if_pos (by simpa using hr.1), if_pos (by simpa using hr'.2), if_pos hr', if_pos hr']
              generalize List.getD a r1.toNat Z = q
              obtain ⟨q1, q2, q3, q4, q5, q6⟩ := q
              cases q5 <;> simp [h3, h10, hx, hr]
            · by_cases h0 : 0 ≤ r1
              · have hr1 : ¬ r1 < (a.length : Int) := by omega
                rw [if_pos (by simpa using h0), if_neg (by simpa using hr1)]
                simp [hr]
              · rw [if_neg (by simpa using h0)]
                simp [hr]
        · simp only [decide_eq_false hx, Bool.false_and, Bool.and_false]
          by_cases h0 : 0 ≤ x
          · have hx3 : ¬ x < (hs.length : Int) := by omega
            rw [if_pos (by simpa using h0)]
            simp only [Option.bind_some, decide_eq_false hx3]
            simp
          · rw [if_neg (by simpa using h0)]
            simp
      · rw [if_pos (by simp; omega)]
        simp only [decide_eq_false h10, Bool.false_and, Bool.and_false]
    · rw [if_pos (by simp; omega)]
      simp only [decide_eq_false h3, Bool.false_and]
end
end Go.Proofs.Ytiooamodldgalaa.Abs
