/-
Marks laid over worlds, and held: they come to an end.
-/
import Derived.Test.YtiooamodldgalaaWldL
set_option linter.unusedVariables false
set_option linter.unusedSimpArgs false
namespace Go.Proofs.Ytiooamodldgalaa.Abs
open Go

section
variable {k : Nat}
theorem strOf_size (l : List Int) : (strOf l).size = l.length := by
  simp [strOf, ByteArray.size]
theorem w_markText_l4_v : ∀ (m n : Nat) (v : Nat) (s : ByteArray), v < 10 ^ m → m + 1 ≤ n → s.size + m ≤ 1000 → v ≤ 4000000000 → ∃ r : ByteArray, w_markText_l4 k n (v : Int) s = some (r, ())
  | m, 0, _, _, _, h, _, _ => by omega
  | 0, n + 1, v, s, hv, _, hs, _ => by
    have : v = 0 := by simp at hv; exact hv
    subst this
    rw [w_markText_l4_s, if_neg (by simp), if_pos (by show 1 + s.size ≤ 4611686018427387904; omega)]
    exact ⟨_, rfl⟩
  | m + 1, n + 1, v, s, hv, hn, hs, hb => by
    rw [w_markText_l4_s]
    by_cases h : 0 < v
    · have e : W (Int.tdiv (v : Int) 10) = ((v / 10 : Nat) : Int) := by
        rw [Int.tdiv_eq_ediv_of_nonneg (by omega), W_id] <;> omega
      rw [if_pos (by simp; omega), if_pos (by rw [strOf_size]; show 1 + s.size ≤ 4611686018427387904; omega), e]
      refine w_markText_l4_v m n (v / 10) _ ?_ (by omega) ?_ (by omega)
      · rw [Nat.pow_succ] at hv
        omega
      · rw [ByteArray.size_append, strOf_size]
        simp only [List.length_cons, List.length_nil]
        omega
    · rw [if_neg (by simp; omega), if_pos (by show 1 + s.size ≤ 4611686018427387904; omega)]
      exact ⟨_, rfl⟩
theorem w_markText_v (hk : 2000000 ≤ k) {v : Nat} (hv : v ≤ 1000000000) : ∃ r : ByteArray, w_markText k (v : Int) = some (r, ()) := by
  rw [w_markText_eq]
  by_cases h : v = 0
  · rw [if_pos (by simp; omega)]
    exact ⟨_, rfl⟩
  · rw [if_neg (by simp; omega)]
    exact w_markText_l4_v 10 k v _ (by omega) (by omega) (by simp) (by omega)

theorem w_markHndHandS_l2_v (hk : 2000000 ≤ k) {γ : Nat → Bool} : ∀ (m i n v : Nat) (l : List Hh), i + m = l.length → m + 1 ≤ n → v + 40 * m ≤ 1000000000 → l.length ≤ 1048576 → ∃ (r : Nat) (l' : List Hh), w_markHndHandS_l2 γ k n (v : Int) (i : Int) l = some ((r : Int), l', ()) ∧ r ≤ v + 40 * m
  | m, i, 0, _, _, _, h, _, _ => by omega
  | 0, i, n + 1, v, l, hi, _, _, _ => by
    rw [w_markHndHandS_l2_s, if_neg (by simp; omega)]
    exact ⟨v, l, rfl, by omega⟩
  | m + 1, i, n + 1, v, l, hi, hn, hv, hl => by
    have hj53 : ∀ (v' : Nat) (b : List Hh), v' ≤ v + 24 → b.length = l.length → ∃ (r : Nat) (l' : List Hh), w_markHndHandS_j53 γ k n (v' : Int) (i : Int) b = some ((r : Int), l', ()) ∧ r ≤ v + 40 * (m + 1) := by
      intro v' b hv' hb
      rw [w_markHndHandS_j53_eq, W_succ (i := v') (by omega), W_succ (i := i) (by omega)]
      obtain ⟨r, l', e1, e2⟩ := w_markHndHandS_l2_v hk m (i + 1) n (v' + 1) b (by omega) (by omega) (by omega) (by omega)
      exact ⟨r, l', e1, by omega⟩
    have hj51 : ∀ (v' : Nat) (b : List Hh), v' ≤ v + 23 → b.length = l.length → ∃ (r : Nat) (l' : List Hh), w_markHndHandS_j51 γ k n (v' : Int) (i : Int) b = some ((r : Int), l', ()) ∧ r ≤ v + 40 * (m + 1) := by
      intro v' b hv' hb
      rw [w_markHndHandS_j51_eq, W_succ (i := v') (by omega)]
      rw [if_pos (by omega), gate_eq]
      exact hj53 _ _ (by omega) (by rw [List.length_set]; exact hb)
    have hj49 : ∀ (v' : Nat) (b : List Hh), v' ≤ v + 22 → b.length = l.length → ∃ (r : Nat) (l' : List Hh), w_markHndHandS_j49 γ k n (v' : Int) (i : Int) b = some ((r : Int), l', ()) ∧ r ≤ v + 40 * (m + 1) := by
      intro v' b hv' hb
      rw [w_markHndHandS_j49_eq, W_succ (i := v') (by omega)]
      rw [if_pos (by omega), gate_eq]
      exact hj51 _ _ (by omega) (by rw [List.length_set]; exact hb)
    have hj47 : ∀ (v' : Nat) (b : List Hh), v' ≤ v + 21 → b.length = l.length → ∃ (r : Nat) (l' : List Hh), w_markHndHandS_j47 γ k n (v' : Int) (i : Int) b = some ((r : Int), l', ()) ∧ r ≤ v + 40 * (m + 1) := by
      intro v' b hv' hb
      rw [w_markHndHandS_j47_eq, W_succ (i := v') (by omega)]
      obtain ⟨s, hs⟩ := w_markText_v hk (v := v' + 1) (by omega)
      rw [hs]
      simp only [Option.bind_some]
      rw [if_pos (by omega), gate_eq]
      exact hj49 _ _ (by omega) (by rw [List.length_set]; exact hb)
    have hj45 : ∀ (v' : Nat) (b : List Hh), v' ≤ v + 20 → b.length = l.length → ∃ (r : Nat) (l' : List Hh), w_markHndHandS_j45 γ k n (v' : Int) (i : Int) b = some ((r : Int), l', ()) ∧ r ≤ v + 40 * (m + 1) := by
      intro v' b hv' hb
      rw [w_markHndHandS_j45_eq, W_succ (i := v') (by omega)]
      obtain ⟨s, hs⟩ := w_markText_v hk (v := v' + 1) (by omega)
      rw [hs]
      simp only [Option.bind_some]
      rw [if_pos (by omega), gate_eq]
      exact hj47 _ _ (by omega) (by rw [List.length_set]; exact hb)
    have hj43 : ∀ (v' : Nat) (b : List Hh), v' ≤ v + 19 → b.length = l.length → ∃ (r : Nat) (l' : List Hh), w_markHndHandS_j43 γ k n (v' : Int) (i : Int) b = some ((r : Int), l', ()) ∧ r ≤ v + 40 * (m + 1) := by
      intro v' b hv' hb
      rw [w_markHndHandS_j43_eq, W_succ (i := v') (by omega)]
      rw [if_pos (by omega), gate_eq]
      exact hj45 _ _ (by omega) (by rw [List.length_set]; exact hb)
    have hj41 : ∀ (v' : Nat) (b : List Hh), v' ≤ v + 18 → b.length = l.length → ∃ (r : Nat) (l' : List Hh), w_markHndHandS_j41 γ k n (v' : Int) (i : Int) b = some ((r : Int), l', ()) ∧ r ≤ v + 40 * (m + 1) := by
      intro v' b hv' hb
      rw [w_markHndHandS_j41_eq, W_succ (i := v') (by omega)]
      rw [if_pos (by omega), gate_eq]
      exact hj43 _ _ (by omega) (by rw [List.length_set]; exact hb)
    have hj39 : ∀ (v' : Nat) (b : List Hh), v' ≤ v + 17 → b.length = l.length → ∃ (r : Nat) (l' : List Hh), w_markHndHandS_j39 γ k n (v' : Int) (i : Int) b = some ((r : Int), l', ()) ∧ r ≤ v + 40 * (m + 1) := by
      intro v' b hv' hb
      rw [w_markHndHandS_j39_eq, W_succ (i := v') (by omega)]
      rw [if_pos (by omega), gate_eq]
      exact hj41 _ _ (by omega) (by rw [List.length_set]; exact hb)
    have hj37 : ∀ (v' : Nat) (b : List Hh), v' ≤ v + 16 → b.length = l.length → ∃ (r : Nat) (l' : List Hh), w_markHndHandS_j37 γ k n (v' : Int) (i : Int) b = some ((r : Int), l', ()) ∧ r ≤ v + 40 * (m + 1) := by
      intro v' b hv' hb
      rw [w_markHndHandS_j37_eq, W_succ (i := v') (by omega)]
      rw [if_pos (by omega), gate_eq]
      exact hj39 _ _ (by omega) (by rw [List.length_set]; exact hb)
    have hj35 : ∀ (v' : Nat) (b : List Hh), v' ≤ v + 15 → b.length = l.length → ∃ (r : Nat) (l' : List Hh), w_markHndHandS_j35 γ k n (v' : Int) (i : Int) b = some ((r : Int), l', ()) ∧ r ≤ v + 40 * (m + 1) := by
      intro v' b hv' hb
      rw [w_markHndHandS_j35_eq, W_succ (i := v') (by omega)]
      rw [if_pos (by omega), gate_eq]
      exact hj37 _ _ (by omega) (by rw [List.length_set]; exact hb)
    have hj33 : ∀ (v' : Nat) (b : List Hh), v' ≤ v + 14 → b.length = l.length → ∃ (r : Nat) (l' : List Hh), w_markHndHandS_j33 γ k n (v' : Int) (i : Int) b = some ((r : Int), l', ()) ∧ r ≤ v + 40 * (m + 1) := by
      intro v' b hv' hb
      rw [w_markHndHandS_j33_eq, W_succ (i := v') (by omega)]
      rw [if_pos (by omega), gate_eq]
      exact hj35 _ _ (by omega) (by rw [List.length_set]; exact hb)
    have hj31 : ∀ (v' : Nat) (b : List Hh), v' ≤ v + 13 → b.length = l.length → ∃ (r : Nat) (l' : List Hh), w_markHndHandS_j31 γ k n (v' : Int) (i : Int) b = some ((r : Int), l', ()) ∧ r ≤ v + 40 * (m + 1) := by
      intro v' b hv' hb
      rw [w_markHndHandS_j31_eq, W_succ (i := v') (by omega)]
      rw [if_pos (by omega), gate_eq]
      exact hj33 _ _ (by omega) (by rw [List.length_set]; exact hb)
    have hj29 : ∀ (v' : Nat) (b : List Hh), v' ≤ v + 12 → b.length = l.length → ∃ (r : Nat) (l' : List Hh), w_markHndHandS_j29 γ k n (v' : Int) (i : Int) b = some ((r : Int), l', ()) ∧ r ≤ v + 40 * (m + 1) := by
      intro v' b hv' hb
      rw [w_markHndHandS_j29_eq, W_succ (i := v') (by omega)]
      rw [if_pos (by omega), gate_eq]
      exact hj31 _ _ (by omega) (by rw [List.length_set]; exact hb)
    have hj27 : ∀ (v' : Nat) (b : List Hh), v' ≤ v + 11 → b.length = l.length → ∃ (r : Nat) (l' : List Hh), w_markHndHandS_j27 γ k n (v' : Int) (i : Int) b = some ((r : Int), l', ()) ∧ r ≤ v + 40 * (m + 1) := by
      intro v' b hv' hb
      rw [w_markHndHandS_j27_eq, W_succ (i := v') (by omega)]
      rw [if_pos (by omega), gate_eq]
      exact hj29 _ _ (by omega) (by rw [List.length_set]; exact hb)
    have hj25 : ∀ (v' : Nat) (b : List Hh), v' ≤ v + 10 → b.length = l.length → ∃ (r : Nat) (l' : List Hh), w_markHndHandS_j25 γ k n (v' : Int) (i : Int) b = some ((r : Int), l', ()) ∧ r ≤ v + 40 * (m + 1) := by
      intro v' b hv' hb
      rw [w_markHndHandS_j25_eq, W_succ (i := v') (by omega)]
      rw [if_pos (by omega), gate_eq]
      exact hj27 _ _ (by omega) (by rw [List.length_set]; exact hb)
    have hj23 : ∀ (v' : Nat) (b : List Hh), v' ≤ v + 9 → b.length = l.length → ∃ (r : Nat) (l' : List Hh), w_markHndHandS_j23 γ k n (v' : Int) (i : Int) b = some ((r : Int), l', ()) ∧ r ≤ v + 40 * (m + 1) := by
      intro v' b hv' hb
      rw [w_markHndHandS_j23_eq, W_succ (i := v') (by omega)]
      rw [if_pos (by omega), gate_eq]
      exact hj25 _ _ (by omega) (by rw [List.length_set]; exact hb)
    have hj21 : ∀ (v' : Nat) (b : List Hh), v' ≤ v + 8 → b.length = l.length → ∃ (r : Nat) (l' : List Hh), w_markHndHandS_j21 γ k n (v' : Int) (i : Int) b = some ((r : Int), l', ()) ∧ r ≤ v + 40 * (m + 1) := by
      intro v' b hv' hb
      rw [w_markHndHandS_j21_eq, W_succ (i := v') (by omega)]
      rw [if_pos (by omega), gate_eq]
      exact hj23 _ _ (by omega) (by rw [List.length_set]; exact hb)
    have hj19 : ∀ (v' : Nat) (b : List Hh), v' ≤ v + 7 → b.length = l.length → ∃ (r : Nat) (l' : List Hh), w_markHndHandS_j19 γ k n (v' : Int) (i : Int) b = some ((r : Int), l', ()) ∧ r ≤ v + 40 * (m + 1) := by
      intro v' b hv' hb
      rw [w_markHndHandS_j19_eq, W_succ (i := v') (by omega)]
      rw [if_pos (by omega), gate_eq]
      exact hj21 _ _ (by omega) (by rw [List.length_set]; exact hb)
    have hj17 : ∀ (v' : Nat) (b : List Hh), v' ≤ v + 6 → b.length = l.length → ∃ (r : Nat) (l' : List Hh), w_markHndHandS_j17 γ k n (v' : Int) (i : Int) b = some ((r : Int), l', ()) ∧ r ≤ v + 40 * (m + 1) := by
      intro v' b hv' hb
      rw [w_markHndHandS_j17_eq, W_succ (i := v') (by omega)]
      rw [if_pos (by omega), gate_eq]
      exact hj19 _ _ (by omega) (by rw [List.length_set]; exact hb)
    have hj15 : ∀ (v' : Nat) (b : List Hh), v' ≤ v + 5 → b.length = l.length → ∃ (r : Nat) (l' : List Hh), w_markHndHandS_j15 γ k n (v' : Int) (i : Int) b = some ((r : Int), l', ()) ∧ r ≤ v + 40 * (m + 1) := by
      intro v' b hv' hb
      rw [w_markHndHandS_j15_eq, W_succ (i := v') (by omega)]
      rw [if_pos (by omega), gate_eq]
      exact hj17 _ _ (by omega) (by rw [List.length_set]; exact hb)
    have hj13 : ∀ (v' : Nat) (b : List Hh), v' ≤ v + 4 → b.length = l.length → ∃ (r : Nat) (l' : List Hh), w_markHndHandS_j13 γ k n (v' : Int) (i : Int) b = some ((r : Int), l', ()) ∧ r ≤ v + 40 * (m + 1) := by
      intro v' b hv' hb
      rw [w_markHndHandS_j13_eq, W_succ (i := v') (by omega)]
      rw [if_pos (by omega), gate_eq]
      exact hj15 _ _ (by omega) (by rw [List.length_set]; exact hb)
    have hj11 : ∀ (v' : Nat) (b : List Hh), v' ≤ v + 3 → b.length = l.length → ∃ (r : Nat) (l' : List Hh), w_markHndHandS_j11 γ k n (v' : Int) (i : Int) b = some ((r : Int), l', ()) ∧ r ≤ v + 40 * (m + 1) := by
      intro v' b hv' hb
      rw [w_markHndHandS_j11_eq, W_succ (i := v') (by omega)]
      rw [if_pos (by omega), gate_eq]
      exact hj13 _ _ (by omega) (by rw [List.length_set]; exact hb)
    have hj9 : ∀ (v' : Nat) (b : List Hh), v' ≤ v + 2 → b.length = l.length → ∃ (r : Nat) (l' : List Hh), w_markHndHandS_j9 γ k n (v' : Int) (i : Int) b = some ((r : Int), l', ()) ∧ r ≤ v + 40 * (m + 1) := by
      intro v' b hv' hb
      rw [w_markHndHandS_j9_eq, W_succ (i := v') (by omega)]
      rw [if_pos (by omega), gate_eq]
      exact hj11 _ _ (by omega) (by rw [List.length_set]; exact hb)
    have hj7 : ∀ (v' : Nat) (b : List Hh), v' ≤ v + 1 → b.length = l.length → ∃ (r : Nat) (l' : List Hh), w_markHndHandS_j7 γ k n (v' : Int) (i : Int) b = some ((r : Int), l', ()) ∧ r ≤ v + 40 * (m + 1) := by
      intro v' b hv' hb
      rw [w_markHndHandS_j7_eq, W_succ (i := v') (by omega)]
      rw [if_pos (by omega), gate_eq]
      exact hj9 _ _ (by omega) (by rw [List.length_set]; exact hb)
    have hj5 : ∀ (v' : Nat) (b : List Hh), v' ≤ v + 0 → b.length = l.length → ∃ (r : Nat) (l' : List Hh), w_markHndHandS_j5 γ k n (v' : Int) (i : Int) b = some ((r : Int), l', ()) ∧ r ≤ v + 40 * (m + 1) := by
      intro v' b hv' hb
      rw [w_markHndHandS_j5_eq, W_succ (i := v') (by omega)]
      rw [if_pos (by omega), gate_eq]
      exact hj7 _ _ (by omega) (by rw [List.length_set]; exact hb)
    rw [w_markHndHandS_l2_s, if_pos (by simp; omega), if_pos (by omega), gate_eq]
    exact hj5 _ _ (by omega) (by rw [List.length_set])
theorem w_markHndHandS_v (hk : 2000000 ≤ k) {v : Nat} {l : List Hh} (hl : l.length ≤ 1048576) (hv : v + 40 * l.length ≤ 1000000000) : ∃ (r : Nat) (l' : List Hh), w_markHndHandS k (v : Int) l = some ((r : Int), l', ()) ∧ r ≤ v + 40 * l.length := by
  rw [w_markHndHandS_eq, w_markHndHandSg_eq]
  exact w_markHndHandS_l2_v hk l.length 0 k v l (by omega) (by omega) hv hl

theorem w_markLogRecS_l2_v (hk : 2000000 ≤ k) {γ : Nat → Bool} : ∀ (m i n v : Nat) (l : List Lr), i + m = l.length → m + 1 ≤ n → v + 40 * m ≤ 1000000000 → l.length ≤ 1048576 → ∃ (r : Nat) (l' : List Lr), w_markLogRecS_l2 γ k n (v : Int) (i : Int) l = some ((r : Int), l', ()) ∧ r ≤ v + 40 * m
  | m, i, 0, _, _, _, h, _, _ => by omega
  | 0, i, n + 1, v, l, hi, _, _, _ => by
    rw [w_markLogRecS_l2_s, if_neg (by simp; omega)]
    exact ⟨v, l, rfl, by omega⟩
  | m + 1, i, n + 1, v, l, hi, hn, hv, hl => by
    have hj21 : ∀ (v' : Nat) (b : List Lr), v' ≤ v + 8 → b.length = l.length → ∃ (r : Nat) (l' : List Lr), w_markLogRecS_j21 γ k n (v' : Int) (i : Int) b = some ((r : Int), l', ()) ∧ r ≤ v + 40 * (m + 1) := by
      intro v' b hv' hb
      rw [w_markLogRecS_j21_eq, W_succ (i := v') (by omega), W_succ (i := i) (by omega)]
      obtain ⟨r, l', e1, e2⟩ := w_markLogRecS_l2_v hk m (i + 1) n (v' + 1) b (by omega) (by omega) (by omega) (by omega)
      exact ⟨r, l', e1, by omega⟩
    have hj19 : ∀ (v' : Nat) (b : List Lr), v' ≤ v + 7 → b.length = l.length → ∃ (r : Nat) (l' : List Lr), w_markLogRecS_j19 γ k n (v' : Int) (i : Int) b = some ((r : Int), l', ()) ∧ r ≤ v + 40 * (m + 1) := by
      intro v' b hv' hb
      rw [w_markLogRecS_j19_eq, W_succ (i := v') (by omega)]
      rw [if_pos (by omega), gate_eq]
      exact hj21 _ _ (by omega) (by rw [List.length_set]; exact hb)
    have hj17 : ∀ (v' : Nat) (b : List Lr), v' ≤ v + 6 → b.length = l.length → ∃ (r : Nat) (l' : List Lr), w_markLogRecS_j17 γ k n (v' : Int) (i : Int) b = some ((r : Int), l', ()) ∧ r ≤ v + 40 * (m + 1) := by
      intro v' b hv' hb
      rw [w_markLogRecS_j17_eq, W_succ (i := v') (by omega)]
      rw [if_pos (by omega), gate_eq]
      exact hj19 _ _ (by omega) (by rw [List.length_set]; exact hb)
    have hj15 : ∀ (v' : Nat) (b : List Lr), v' ≤ v + 5 → b.length = l.length → ∃ (r : Nat) (l' : List Lr), w_markLogRecS_j15 γ k n (v' : Int) (i : Int) b = some ((r : Int), l', ()) ∧ r ≤ v + 40 * (m + 1) := by
      intro v' b hv' hb
      rw [w_markLogRecS_j15_eq, W_succ (i := v') (by omega)]
      rw [if_pos (by omega), gate_eq]
      exact hj17 _ _ (by omega) (by rw [List.length_set]; exact hb)
    have hj13 : ∀ (v' : Nat) (b : List Lr), v' ≤ v + 4 → b.length = l.length → ∃ (r : Nat) (l' : List Lr), w_markLogRecS_j13 γ k n (v' : Int) (i : Int) b = some ((r : Int), l', ()) ∧ r ≤ v + 40 * (m + 1) := by
      intro v' b hv' hb
      rw [w_markLogRecS_j13_eq, W_succ (i := v') (by omega)]
      rw [if_pos (by omega), gate_eq]
      exact hj15 _ _ (by omega) (by rw [List.length_set]; exact hb)
    have hj11 : ∀ (v' : Nat) (b : List Lr), v' ≤ v + 3 → b.length = l.length → ∃ (r : Nat) (l' : List Lr), w_markLogRecS_j11 γ k n (v' : Int) (i : Int) b = some ((r : Int), l', ()) ∧ r ≤ v + 40 * (m + 1) := by
      intro v' b hv' hb
      rw [w_markLogRecS_j11_eq, W_succ (i := v') (by omega)]
      rw [if_pos (by omega), gate_eq]
      exact hj13 _ _ (by omega) (by rw [List.length_set]; exact hb)
    have hj9 : ∀ (v' : Nat) (b : List Lr), v' ≤ v + 2 → b.length = l.length → ∃ (r : Nat) (l' : List Lr), w_markLogRecS_j9 γ k n (v' : Int) (i : Int) b = some ((r : Int), l', ()) ∧ r ≤ v + 40 * (m + 1) := by
      intro v' b hv' hb
      rw [w_markLogRecS_j9_eq, W_succ (i := v') (by omega)]
      rw [if_pos (by omega), gate_eq]
      exact hj11 _ _ (by omega) (by rw [List.length_set]; exact hb)
    have hj7 : ∀ (v' : Nat) (b : List Lr), v' ≤ v + 1 → b.length = l.length → ∃ (r : Nat) (l' : List Lr), w_markLogRecS_j7 γ k n (v' : Int) (i : Int) b = some ((r : Int), l', ()) ∧ r ≤ v + 40 * (m + 1) := by
      intro v' b hv' hb
      rw [w_markLogRecS_j7_eq, W_succ (i := v') (by omega)]
      rw [if_pos (by omega), gate_eq]
      exact hj9 _ _ (by omega) (by rw [List.length_set]; exact hb)
    have hj5 : ∀ (v' : Nat) (b : List Lr), v' ≤ v + 0 → b.length = l.length → ∃ (r : Nat) (l' : List Lr), w_markLogRecS_j5 γ k n (v' : Int) (i : Int) b = some ((r : Int), l', ()) ∧ r ≤ v + 40 * (m + 1) := by
      intro v' b hv' hb
      rw [w_markLogRecS_j5_eq, W_succ (i := v') (by omega)]
      rw [if_pos (by omega), gate_eq]
      exact hj7 _ _ (by omega) (by rw [List.length_set]; exact hb)
    rw [w_markLogRecS_l2_s, if_pos (by simp; omega), if_pos (by omega), gate_eq]
    exact hj5 _ _ (by omega) (by rw [List.length_set])
theorem w_markLogRecS_v (hk : 2000000 ≤ k) {v : Nat} {l : List Lr} (hl : l.length ≤ 1048576) (hv : v + 40 * l.length ≤ 1000000000) : ∃ (r : Nat) (l' : List Lr), w_markLogRecS k (v : Int) l = some ((r : Int), l', ()) ∧ r ≤ v + 40 * l.length := by
  rw [w_markLogRecS_eq, w_markLogRecSg_eq]
  exact w_markLogRecS_l2_v hk l.length 0 k v l (by omega) (by omega) hv hl

theorem w_markPolOldS_l2_v {γ : Nat → Bool} {p : Nat} : ∀ (m i n v : Nat) (l : List (List Po)), p < l.length → i + m = (l.getD p []).length → m + 1 ≤ n → v + 2 * m ≤ 100000000 → (l.getD p []).length ≤ 1048576 →
    ∃ (r : Nat) (l' : List (List Po)), w_markPolOldS_l2 γ k n p (v : Int) (i : Int) l = some ((r : Int), l', ()) ∧ r ≤ v + 2 * m ∧ l'.map List.length = l.map List.length
  | m, i, 0, _, _, _, _, h, _, _ => by omega
  | 0, i, n + 1, v, l, _, hi, _, _, _ => by
    rw [w_markPolOldS_l2_s, if_neg (by rw [decide_eq_true_eq]; omega)]
    exact ⟨v, l, rfl, by omega, rfl⟩
  | m + 1, i, n + 1, v, l, hp, hi, hn, hv, hl => by
    have hs : ∀ (b : List (List Po)) (y : List Po), b.length = l.length → (b.set p y).getD p [] = y := fun b y hb => getD_set_same (by omega)
    have hsl : ∀ (b : List (List Po)) (y : List Po), b.map List.length = l.map List.length → y.length = (l.getD p []).length → (b.set p y).map List.length = l.map List.length := by
      intro b y hb hy
      rw [List.map_set, hb, hy]
      apply List.ext_getElem?
      intro q
      by_cases hq : q = p
      · subst hq
        rw [List.getElem?_set_self (by simpa using hp), List.getElem?_map, List.getD_eq_getElem?_getD, List.getElem?_eq_getElem hp]
        rfl
      · rw [List.getElem?_set_ne (fun e => hq e.symm)]
    have hll : ∀ b : List (List Po), b.map List.length = l.map List.length → b.length = l.length := fun b hb => by simpa using congrArg List.length hb
    have hgl : ∀ b : List (List Po), b.map List.length = l.map List.length → (b.getD p []).length = (l.getD p []).length := by
      intro b hb
      have e := congrArg (fun z : List Nat => z.getD p 0) hb
      simp only [List.getD_eq_getElem?_getD, List.getElem?_map] at e ⊢
      have h1 := hll b hb
      rw [List.getElem?_eq_getElem (by omega), List.getElem?_eq_getElem hp] at e ⊢
      simpa using e
    have key : ∀ (v' : Nat) (b : List (List Po)), v' = v + 1 → b.map List.length = l.map List.length → ∃ (r : Nat) (l' : List (List Po)), w_markPolOldS_j7 γ k n p (v' : Int) (i : Int) b = some ((r : Int), l', ()) ∧ r ≤ v + 2 * (m + 1) ∧ l'.map List.length = l.map List.length := by
      intro v' b e hb
      have h1 := hgl b hb
      have h2 := hll b hb
      rw [w_markPolOldS_j7_eq, W_succ (i := v') (by omega), W_succ (i := i) (by omega)]
      obtain ⟨r, l', e1, e2, e3⟩ := w_markPolOldS_l2_v (γ := γ) (p := p) m (i + 1) n (v' + 1) b (by omega) (by omega) (by omega) (by omega) (by omega)
      exact ⟨r, l', e1, by omega, e3.trans hb⟩
    have hii : (0:Int) ≤ (i : Int) ∧ (i : Int) < ((l.getD p []).length : Int) := by omega
    rw [w_markPolOldS_l2_s, if_pos (by rw [decide_eq_true_eq]; omega), if_pos hii]
    rw [hs l _ rfl, if_pos (by rw [List.length_set]; exact hii), gate_eq, W_succ (i := v) (by omega)]
    refine key (v + 1) _ rfl ?_
    refine hsl _ _ (hsl _ _ rfl (by rw [List.length_set])) (by rw [List.length_set, List.length_set])
theorem w_markPolOldS_v (hk : 2000000 ≤ k) {p v : Nat} {l : List (List Po)} (hp : p < l.length) (hl : (l.getD p []).length ≤ 1048576) (hv : v + 2 * (l.getD p []).length ≤ 100000000) :
    ∃ (r : Nat) (l' : List (List Po)), w_markPolOldS k p (v : Int) l = some ((r : Int), l', ()) ∧ r ≤ v + 2 * (l.getD p []).length ∧ l'.map List.length = l.map List.length := by
  rw [w_markPolOldS_eq, w_markPolOldSg_eq]
  exact w_markPolOldS_l2_v (l.getD p []).length 0 k v l hp (by omega) (by omega) hv hl

theorem tot_of {l l' : List (List Po)} (h : l'.map List.length = l.map List.length) (i : Nat) : tot (l'.drop i) = tot (l.drop i) := by
  unfold tot
  rw [List.map_drop, List.map_drop, h]
theorem w_markPolOldSS_l2_v (hk : 2000000 ≤ k) : ∀ (m i n v : Nat) (l : List (List Po)), i + m = l.length → m + 1 ≤ n → v + 2 * tot (l.drop i) ≤ 100000000 → (∀ y ∈ l, y.length ≤ 1048576) → l.length ≤ 1048576 →
    ∃ (r : Nat) (l' : List (List Po)), w_markPolOldSS_l2 k n (v : Int) (i : Int) l = some ((r : Int), l', ()) ∧ r ≤ v + 2 * tot (l.drop i)
  | m, i, 0, _, _, _, h, _, _, _ => by omega
  | 0, i, n + 1, v, l, hi, _, _, _, _ => by
    rw [w_markPolOldSS_l2_s, if_neg (by simp; omega)]
    exact ⟨v, l, rfl, by omega⟩
  | m + 1, i, n + 1, v, l, hi, hn, hv, hy, hl => by
    have hm : l.getD i [] ∈ l := by rw [getD_lt (show i < l.length by omega)]; exact List.getElem_mem _
    rw [drop_cons (i := i) [] (by omega), tot_cons] at hv ⊢
    obtain ⟨r, l', e1, e2, e3⟩ := w_markPolOldS_v hk (p := i) (v := v) (l := l) (by omega) (hy _ hm) (by omega)
    have hll : l'.length = l.length := by simpa using congrArg List.length e3
    have ht := tot_of e3 (i + 1)
    rw [w_markPolOldSS_l2_s, if_pos (by simp; omega), if_pos (by omega), Int.toNat_natCast, e1]
    simp only [Option.bind_some]
    rw [W_succ (i := i) (by omega)]
    obtain ⟨r2, l2, f1, f2⟩ := w_markPolOldSS_l2_v hk m (i + 1) n r l' (by omega) (by omega) (by omega) (by
      intro y hy'
      obtain ⟨q, hq, rfl⟩ := List.getElem_of_mem hy'
      have e := congrArg (fun z : List Nat => z[q]?) e3
      simp only [List.getElem?_map] at e
      rw [List.getElem?_eq_getElem hq, List.getElem?_eq_getElem (by omega)] at e
      simp only [Option.map_some, Option.some.injEq] at e
      rw [e]
      exact hy _ (List.getElem_mem _)) (by omega)
    exact ⟨r2, l2, f1, by omega⟩
theorem w_markWldWorld_v (hk : 2000000 ≤ k) {a : List Nd} (t f z : Int) (e : Int) {p : List Int} {l : List (List Po)} {hs : List Hh} (c : Int) {lg : List Lr} (H : Short a p l hs lg) :
    ∃ (r : Nat) (a' : List Nd) (p' : List Int) (l' : List (List Po)) (hs' : List Hh) (lg' : List Lr), w_markWldWorld k t f z e c 1 a p l hs lg = some ((r : Int), a', p', l', hs', lg', ()) := by
  rw [w_markWldWorld_eq]
  obtain ⟨a', e1⟩ := w_markArnArena_v hk H.a1 t f z
  have ha := H.a1
  have hp := H.p1
  have h4 := H.l4
  have hh := H.h1
  have hg := H.g1
  rw [e1]
  simp only [Option.bind_some]
  rw [w_markPolPool_eq, w_markIntS_vv hk H.p1 (by omega)]
  simp only [Option.bind_some]
  rw [w_markPolOldSS_eq]
  obtain ⟨r2, l2, f1, f2⟩ := w_markPolOldSS_l2_v hk l.length 0 k (1 + 6 * a.length + p.length) l (by omega) (by have := H.l1; omega) (by rw [List.drop_zero]; omega) H.l3 H.l1
  rw [show ((0 : Nat) : Int) = 0 from rfl] at f1
  rw [List.drop_zero] at f2
  rw [f1]
  simp only [Option.bind_some]
  obtain ⟨r3, l3, g1, g2⟩ := w_markHndHandS_v hk H.h1 (v := r2) (by omega)
  rw [g1]
  simp only [Option.bind_some]
  obtain ⟨r4, l4, i1, i2⟩ := w_markLogRecS_v hk H.g1 (v := r3) (by omega)
  rw [i1]
  exact ⟨_, _, _, _, _, _, rfl⟩

end
end Go.Proofs.Ytiooamodldgalaa.Abs
