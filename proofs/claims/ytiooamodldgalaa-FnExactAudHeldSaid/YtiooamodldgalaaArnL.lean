/-
What the laws do around a call: sizes, copies, comparisons and marks: the arena's places, and lists of numbers.
-/
import Derived.Test.YtiooamodldgalaaArn3
set_option linter.unusedVariables false
set_option linter.unusedSimpArgs false
namespace Go.Proofs.Ytiooamodldgalaa.Abs
open Go

section
variable {k : Nat}
theorem w_szArnArena_v {a : List Nd} (hs : a.length ≤ 9223372036854775807) (t f l : Int) : w_szArnArena k a t f l 1048576 = some (if a.length ≤ 1048576 then 1048576 - (a.length : Int) else -1, ()) := by
  have e : W (1048576 - (a.length : Int)) = 1048576 - (a.length : Int) := by
    unfold W
    rw [IntKind.wrap_i64]
    omega
  rw [w_szArnArena_eq, w_szArnNodeS_eq, e]
  by_cases h : a.length ≤ 1048576
  · rw [if_neg (by simp; omega), if_pos h]
    simp only [Option.bind_some]
    rw [if_neg (by simp; omega)]
  · rw [if_pos (by simp; omega), if_neg h]
    rfl

theorem w_toArnNodeS_l3_v {a : List Nd} (hs : a.length ≤ 1048576) : ∀ (m i n : Nat) (b : List Nd), i + m = a.length → m + 1 ≤ n → b.length = a.length → w_toArnNodeS_l3 k n a (i : Int) b = some (b.take i ++ a.drop i, ())
  | m, i, 0, _, _, h, _ => by omega
  | 0, i, n + 1, b, hi, _, hb => by
    rw [w_toArnNodeS_l3_s, if_neg (by simp; omega), List.drop_of_length_le (by omega), List.take_of_length_le (by omega)]
    simp
  | m + 1, i, n + 1, b, hi, hn, hb => by
    rw [w_toArnNodeS_l3_s, if_pos (by simp; omega), if_pos (by omega), Int.toNat_natCast, w_toArnNode_eq]
    simp only [Option.bind_some]
    rw [if_pos (by omega), W_succ (by omega), w_toArnNodeS_l3_v hs m (i + 1) n _ (by omega) (by omega) (by simp [hb]), drop_cons (i := i) Z (by omega)]
    congr 2
    rw [List.take_add_one, List.getElem?_set_self (by omega), List.take_set_of_le (Nat.le_refl _)]
    simp
theorem w_toArnArena_v (hk : 2000000 ≤ k) {a : List Nd} (hs : a.length ≤ 1048576) (t f l : Int) : w_toArnArena k a t f l = some (t, f, l, a, ()) := by
  rw [w_toArnArena_eq, w_toArnNodeS_eq, if_pos (by rw [LB_eq]; omega)]
  have := w_toArnNodeS_l3_v (k := k) hs a.length 0 k (List.replicate a.length Z) (by omega) (by omega) (by simp)
  rw [show ((0 : Nat) : Int) = 0 from rfl] at this
  rw [Int.toNat_natCast, this]
  simp

theorem w_eqIntS_l4_v {a b : List Int} (hs : a.length ≤ 4000000) (hab : a.length = b.length) : ∀ (m i n : Nat), i + m = a.length → m + 1 ≤ n → a = b → w_eqIntS_l4 k n a b (i : Int) = some (true, ())
  | m, i, 0, _, h, _ => by omega
  | 0, i, n + 1, hi, _, _ => by
    rw [w_eqIntS_l4_s, if_neg (by simp; omega)]
  | m + 1, i, n + 1, hi, hn, e => by
    rw [w_eqIntS_l4_s, if_pos (by simp; omega), if_pos (by omega), if_pos (by omega), if_neg (by simp [e]), W_succ (by omega), w_eqIntS_l4_v hs hab m (i + 1) n (by omega) (by omega) e]
theorem w_eqIntS_v (hk : 2000000 ≤ k) {a : List Int} (hs : a.length ≤ 1048576) : w_eqIntS k a a = some (true, ()) := by
  rw [w_eqIntS_eq, if_neg (by simp)]
  exact w_eqIntS_l4_v (by omega) rfl a.length 0 k (by omega) (by omega) rfl
theorem w_eqIntS_w (hk : 5000000 ≤ k) {a : List Int} (hs : a.length ≤ 4000000) : w_eqIntS k a a = some (true, ()) := by
  rw [w_eqIntS_eq, if_neg (by simp)]
  exact w_eqIntS_l4_v hs rfl a.length 0 k (by omega) (by omega) rfl

theorem w_eqArnNodeS_l4_v {a : List Nd} (hs : a.length ≤ 1048576) : ∀ (m i n : Nat), i + m = a.length → m + 1 ≤ n → w_eqArnNodeS_l4 k n a a (i : Int) = some (true, ())
  | m, i, 0, _, h => by omega
  | 0, i, n + 1, hi, _ => by
    rw [w_eqArnNodeS_l4_s, if_neg (by simp; omega)]
  | m + 1, i, n + 1, hi, hn => by
    rw [w_eqArnNodeS_l4_s, if_pos (by simp; omega), if_pos (by omega), if_pos (by omega), w_eqArnNode_eq]
    simp only [not_true_eq_false, decide_false, Bool.false_eq_true, if_false, BEq.rfl, Bool.not_true, Option.bind_some]
    rw [W_succ (by omega), w_eqArnNodeS_l4_v hs m (i + 1) n (by omega) (by omega)]
theorem w_eqArnArena_v (hk : 2000000 ≤ k) {a : List Nd} (hs : a.length ≤ 1048576) (t f l : Int) : w_eqArnArena k a t f l a t f l = some (true, ()) := by
  rw [w_eqArnArena_eq, w_eqArnNodeS_eq, if_neg (by simp)]
  have := w_eqArnNodeS_l4_v (k := k) hs a.length 0 k (by omega) (by omega)
  rw [show ((0 : Nat) : Int) = 0 from rfl] at this
  rw [this]
  simp

theorem W_succ' {v : Nat} (h : v ≤ 4000000000) : W ((v : Int) + 1) = ((v + 1 : Nat) : Int) := W_succ h
theorem w_markArnNodeS_l2_v {γ : Nat → Bool} : ∀ (m i n v : Nat) (l : List Nd), i + m = l.length → m + 1 ≤ n → v + 6 * m ≤ 100000000 → l.length ≤ 1048576 → ∃ l' : List Nd, w_markArnNodeS_l2 γ k n (v : Int) (i : Int) l = some (((v + 6 * m : Nat) : Int), l', ())
  | m, i, 0, _, _, _, h, _, _ => by omega
  | 0, i, n + 1, v, l, hi, _, _, _ => by
    rw [w_markArnNodeS_l2_s, if_neg (by simp; omega)]
    exact ⟨l, by simp⟩
  | m + 1, i, n + 1, v, l, hi, hn, hv, hl => by
    have h15 : ∀ b : List Nd, b.length = l.length → ∃ l' : List Nd, w_markArnNodeS_j15 γ k n ((v + 5 : Nat) : Int) (i : Int) b = some (((v + 6 * (m + 1) : Nat) : Int), l', ()) := by
      intro b hb
      obtain ⟨l', h⟩ := w_markArnNodeS_l2_v m (i + 1) n (v + 5 + 1) b (by omega) (by omega) (by omega) (by omega)
      refine ⟨l', ?_⟩
      rw [w_markArnNodeS_j15_eq, W_succ (i := v + 5) (by omega), W_succ (i := i) (by omega), h]
      rw [show v + 5 + 1 + 6 * m = v + 6 * (m + 1) by omega]
    have h13 : ∀ b : List Nd, b.length = l.length → ∃ l' : List Nd, w_markArnNodeS_j13 γ k n ((v + 4 : Nat) : Int) (i : Int) b = some (((v + 6 * (m + 1) : Nat) : Int), l', ()) := by
      intro b hb
      rw [w_markArnNodeS_j13_eq, if_pos (by omega), gate_eq, W_succ (i := v + 4) (by omega)]
      exact h15 _ (by rw [List.length_set]; exact hb)
    have h11 : ∀ b : List Nd, b.length = l.length → ∃ l' : List Nd, w_markArnNodeS_j11 γ k n ((v + 3 : Nat) : Int) (i : Int) b = some (((v + 6 * (m + 1) : Nat) : Int), l', ()) := by
      intro b hb
      rw [w_markArnNodeS_j11_eq, if_pos (by omega), gate_eq, W_succ (i := v + 3) (by omega)]
      exact h13 _ (by rw [List.length_set]; exact hb)
    have h9 : ∀ b : List Nd, b.length = l.length → ∃ l' : List Nd, w_markArnNodeS_j9 γ k n ((v + 2 : Nat) : Int) (i : Int) b = some (((v + 6 * (m + 1) : Nat) : Int), l', ()) := by
      intro b hb
      rw [w_markArnNodeS_j9_eq, if_pos (by omega), gate_eq, W_succ (i := v + 2) (by omega)]
      exact h11 _ (by rw [List.length_set]; exact hb)
    have h7 : ∀ b : List Nd, b.length = l.length → ∃ l' : List Nd, w_markArnNodeS_j7 γ k n ((v + 1 : Nat) : Int) (i : Int) b = some (((v + 6 * (m + 1) : Nat) : Int), l', ()) := by
      intro b hb
      rw [w_markArnNodeS_j7_eq, if_pos (by omega), gate_eq, W_succ (i := v + 1) (by omega)]
      exact h9 _ (by rw [List.length_set]; exact hb)
    have h5 : ∀ b : List Nd, b.length = l.length → ∃ l' : List Nd, w_markArnNodeS_j5 γ k n ((v + 0 : Nat) : Int) (i : Int) b = some (((v + 6 * (m + 1) : Nat) : Int), l', ()) := by
      intro b hb
      rw [w_markArnNodeS_j5_eq, if_pos (by omega), gate_eq, W_succ (i := v + 0) (by omega)]
      exact h7 _ (by rw [List.length_set]; exact hb)
    rw [w_markArnNodeS_l2_s, if_pos (by simp; omega), if_pos (by omega), gate_eq]
    exact h5 _ (by rw [List.length_set])
theorem w_markArnArena_v (hk : 2000000 ≤ k) {a : List Nd} (hs : a.length ≤ 1048576) (t f l : Int) : ∃ a' : List Nd, w_markArnArena k t f l 1 a = some (((1 + 6 * a.length : Nat) : Int), a', ()) := by
  rw [w_markArnArena_eq, w_markArnNodeS_eq, w_markArnNodeSg_eq]
  obtain ⟨l', h⟩ := w_markArnNodeS_l2_v (k := k) (γ := fun _ => true) a.length 0 k 1 a (by omega) (by omega) (by omega) hs
  rw [show ((0 : Nat) : Int) = 0 from rfl, show ((1 : Nat) : Int) = 1 from rfl] at h
  rw [h]
  exact ⟨l', rfl⟩

/-- Numbers from one on. -/
def marks (v m : Nat) : List Int := (List.range m).map fun j => ((v + j : Nat) : Int)
theorem marks_succ (v m : Nat) : marks v (m + 1) = (v : Int) :: marks (v + 1) m := by
  unfold marks
  rw [List.range_succ_eq_map]
  simp only [List.map_cons, List.map_map, Nat.add_zero]
  congr 1
  apply List.map_congr_left
  intro j _
  simp only [Function.comp]
  congr 1
  omega
theorem w_markIntS_l2_v : ∀ (m i n v : Nat) (l : List Int), i + m = l.length → m + 1 ≤ n → v + m ≤ 100000000 → l.length ≤ 4000000 → w_markIntS_l2 k n (v : Int) (i : Int) l = some (((v + m : Nat) : Int), l.take i ++ marks v m, ())
  | m, i, 0, _, _, _, h, _, _ => by omega
  | 0, i, n + 1, v, l, hi, _, _, _ => by
    rw [w_markIntS_l2_s, if_neg (by simp; omega), List.take_of_length_le (by omega)]
    simp [marks]
  | m + 1, i, n + 1, v, l, hi, hn, hv, hl => by
    rw [w_markIntS_l2_s, if_pos (by simp; omega), if_pos (by omega), Int.toNat_natCast, W_succ (i := v) (by omega), W_succ (i := i) (by omega), w_markIntS_l2_v m (i + 1) n (v + 1) _ (by simp; omega) (by omega) (by omega) (by simp; omega), marks_succ]
    rw [List.take_add_one, List.getElem?_set_self (by omega), List.take_set_of_le (Nat.le_refl _)]
    rw [show v + 1 + m = v + (m + 1) by omega]
    simp
theorem w_markIntS_vv (hk : 2000000 ≤ k) {v : Nat} {l : List Int} (hs : l.length ≤ 1048576) (hv : v ≤ 10000000) : w_markIntS k (v : Int) l = some (((v + l.length : Nat) : Int), marks v l.length, ()) := by
  rw [w_markIntS_eq]
  have := w_markIntS_l2_v (k := k) l.length 0 k v l (by omega) (by omega) (by omega) (by omega)
  simpa using this
theorem w_markIntS_v (hk : 2000000 ≤ k) {l : List Int} (hs : l.length ≤ 1048576) : w_markIntS k 1 l = some (((1 + l.length : Nat) : Int), marks 1 l.length, ()) := by
  rw [w_markIntS_eq]
  have := w_markIntS_l2_v (k := k) l.length 0 k 1 l (by omega) (by omega) (by omega) (by omega)
  simpa using this
theorem w_markIntS_w (hk : 5000000 ≤ k) {l : List Int} (hs : l.length ≤ 4000000) : w_markIntS k 1 l = some (((1 + l.length : Nat) : Int), marks 1 l.length, ()) := by
  rw [w_markIntS_eq]
  have := w_markIntS_l2_v (k := k) l.length 0 k 1 l (by omega) (by omega) (by omega) hs
  simpa using this
theorem marks_len (v m : Nat) : (marks v m).length = m := by simp [marks]
theorem marks_get {v m i : Nat} (h : i < m) : (marks v m).getD i 0 = ((v + i : Nat) : Int) := by
  rw [getD_lt (by rw [marks_len]; exact h)]
  simp [marks]
theorem w_heldIntS_l2_v {v m0 : Nat} (hm : m0 ≤ 4000000) (hv : v ≤ 100000000) : ∀ (m i n : Nat), i + m = m0 → m + 1 ≤ n → w_heldIntS_l2 k n (marks v m0) ((v + i : Nat) : Int) (i : Int) = some (((v + m0 : Nat) : Int), ())
  | m, i, 0, _, h => by omega
  | 0, i, n + 1, hi, _ => by
    rw [w_heldIntS_l2_s, if_neg (by simp [marks_len]; omega)]
    rw [show i = m0 by omega]
  | m + 1, i, n + 1, hi, hn => by
    rw [w_heldIntS_l2_s, if_pos (by simp [marks_len]; omega), if_pos (by rw [marks_len]; omega), Int.toNat_natCast, marks_get (by omega), if_neg (by simp), W_succ (i := v + i) (by omega), W_succ (i := i) (by omega)]
    exact w_heldIntS_l2_v hm hv m (i + 1) n (by omega) (by omega)
theorem w_heldIntS_vv (hk : 2000000 ≤ k) {v m : Nat} (hm : m ≤ 1048576) (hv : v ≤ 10000000) : w_heldIntS k (marks v m) (v : Int) = some (((v + m : Nat) : Int), ()) := by
  rw [w_heldIntS_eq]
  exact w_heldIntS_l2_v (by omega) (by omega) m 0 k (by omega) (by omega)
theorem w_heldIntS_w (hk : 5000000 ≤ k) {m : Nat} (hm : m ≤ 4000000) : w_heldIntS k (marks 1 m) 1 = some (((1 + m : Nat) : Int), ()) := by
  rw [w_heldIntS_eq]
  exact w_heldIntS_l2_v hm (by omega) m 0 k (by omega) (by omega)
theorem w_heldIntS_v (hk : 2000000 ≤ k) {m : Nat} (hm : m ≤ 1048576) : w_heldIntS k (marks 1 m) 1 = some (((1 + m : Nat) : Int), ()) := by
  rw [w_heldIntS_eq]
  exact w_heldIntS_l2_v (by omega) (by omega) m 0 k (by omega) (by omega)
end
end Go.Proofs.Ytiooamodldgalaa.Abs
