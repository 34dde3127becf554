/-
What is held is told: the program's and the reference's, the same.
-/
import Derived.Test.YtiooamodldgalaaMarkL
set_option linter.unusedVariables false
set_option linter.unusedSimpArgs false
namespace Go.Proofs.Ytiooamodldgalaa.Abs
open Go

section
variable {k : Nat}
def ownAt (h : Hh) : Int := h.2.2.2.2.2.2.2.1.1
def oldAt (h : Hh) : Int := h.2.2.2.2.2.2.2.2.1.1
def pos1 (x : Int) : List Int := if 0 < x then [x] else []
def heldOf : List Hh → List Int
  | [] => []
  | h :: r => pos1 (ownAt h) ++ (pos1 (oldAt h) ++ heldOf r)
theorem pos1_len (x : Int) : (pos1 x).length ≤ 1 := by
  unfold pos1
  split <;> simp
theorem heldOf_len : ∀ l : List Hh, (heldOf l).length ≤ 2 * l.length
  | [] => by simp [heldOf]
  | h :: r => by
    have := heldOf_len r
    have h1 := pos1_len (ownAt h)
    have h2 := pos1_len (oldAt h)
    unfold heldOf
    simp only [List.length_append, List.length_cons]
    omega
theorem s_AudHeld_l3_v {l : List (List Po)} {a : List Nd} {t f z e : Int} {p : List Int} {hs : List Hh} {c : Int} {lg : List Lr} (hl : hs.length ≤ 1048576) : ∀ (m i n : Nat) (acc : List Int), i + m = hs.length → m + 1 ≤ n → acc.length ≤ 2 * i →
    s_AudHeld_l3 k n (i : Int) l a t f z e p hs c lg acc = some (l, acc ++ heldOf (hs.drop i), ())
  | m, i, 0, _, _, h, _ => by omega
  | 0, i, n + 1, acc, hi, _, _ => by
    rw [s_AudHeld_l3_s, if_neg (by simp; omega), List.drop_of_length_le (by omega)]
    simp [heldOf]
  | m + 1, i, n + 1, acc, hi, hn, ha => by
    have ih := fun acc' h => s_AudHeld_l3_v (l := l) (a := a) (t := t) (f := f) (z := z) (e := e) (p := p) (c := c) (lg := lg) hl m (i + 1) n acc' (by omega) (by omega) h
    rw [s_AudHeld_l3_s, if_pos (by simp; omega), if_pos (by omega), Int.toNat_natCast, drop_cons (i := i) HhZ (by omega)]
    simp only [s_AudHeld_j8_eq, s_AudHeld_j4_eq, W_succ (show i ≤ 4000000000 by omega)]
    unfold heldOf
    rw [show ownAt (hs.getD i HhZ) = (hs.getD i HhZ).2.2.2.2.2.2.2.1.1 from rfl, show oldAt (hs.getD i HhZ) = (hs.getD i HhZ).2.2.2.2.2.2.2.2.1.1 from rfl]
    generalize (hs.getD i HhZ).2.2.2.2.2.2.2.1.1 = o1
    generalize (hs.getD i HhZ).2.2.2.2.2.2.2.2.1.1 = o2
    unfold pos1
    have lb : ∀ (q : List Int) (x : Int), q.length ≤ 2 * i + 1 → q.length + [x].length ≤ LB := fun q x hq => by
      rw [LB_eq]
      simp only [List.length_cons, List.length_nil]
      omega
    by_cases h1 : 0 < o1
    · rw [if_pos (by simpa using h1), if_pos (lb _ _ (by omega)), if_pos h1]
      by_cases h2 : 0 < o2
      · rw [if_pos (by simpa using h2), if_pos (lb _ _ (by simp; omega)), if_pos h2, ih _ (by simp; omega)]
        simp
      · rw [if_neg (by simpa using h2), if_neg h2, ih _ (by simp; omega)]
        simp
    · rw [if_neg (by simpa using h1), if_neg h1]
      by_cases h2 : 0 < o2
      · rw [if_pos (by simpa using h2), if_pos (lb _ _ (by omega)), if_pos h2, ih _ (by simp; omega)]
        simp
      · rw [if_neg (by simpa using h2), if_neg h2, ih _ (by omega)]
        simp
theorem s_AudHeld_v (hk : 2000000 ≤ k) (a : List Nd) (t f z e : Int) (p : List Int) {hs : List Hh} (c : Int) (lg : List Lr) (l : List (List Po)) (hl : hs.length ≤ 1048576) : s_AudHeld k a t f z e p hs c lg l = some (l, heldOf hs, ()) := by
  rw [s_AudHeld_eq]
  have := s_AudHeld_l3_v (k := k) (l := l) (a := a) (t := t) (f := f) (z := z) (e := e) (p := p) (c := c) (lg := lg) hl hs.length 0 k [] (by omega) (by omega) (by simp)
  simpa using this

theorem i_AudHeld_l3_v (hk : 2000000 ≤ k) {l : List (List Po)} {hs : List Hh} (hl : hs.length ≤ 1048576) : ∀ (m i n : Nat) (acc : List Int), i + m = hs.length → m + 1 ≤ n → acc.length ≤ 2 * i →
    i_AudHeld_l3 k n hs (hs.length : Int) (i : Int) l acc = some (l, acc ++ heldOf (hs.drop i), ())
  | m, i, 0, _, _, h, _ => by omega
  | 0, i, n + 1, acc, hi, _, _ => by
    rw [i_AudHeld_l3_s, if_neg (by simp; omega), List.drop_of_length_le (by omega)]
    simp [heldOf]
  | m + 1, i, n + 1, acc, hi, hn, ha => by
    have ih := fun acc' h => i_AudHeld_l3_v hk (l := l) hl m (i + 1) n acc' (by omega) (by omega) h
    have key : ∀ (r : List (Int × Int)) (q j n1 : Nat) (acc' : List Int), r.length ≤ 2 → j + q = r.length → q + 1 ≤ n1 → acc'.length ≤ 2 * i + j →
        i_AudHeld_l6 k n n1 hs (hs.length : Int) (i : Int) (r.length : Int) (j : Int) l acc' r = i_AudHeld_l3 k n hs (hs.length : Int) ((i + 1 : Nat) : Int) l (acc' ++ ((r.drop j).map (fun x => pos1 x.1)).flatten) := by
      intro r q
      induction q with
      | zero =>
        intro j n1 acc' hr hj hn1 hacc
        obtain ⟨n1, rfl⟩ : ∃ x, n1 = x + 1 := ⟨n1 - 1, by omega⟩
        rw [i_AudHeld_l6_s, if_neg (by simp; omega), W_succ (i := i) (by omega), List.drop_of_length_le (by omega)]
        simp
      | succ q ihq =>
        intro j n1 acc' hr hj hn1 hacc
        obtain ⟨n1, rfl⟩ : ∃ x, n1 = x + 1 := ⟨n1 - 1, by omega⟩
        rw [i_AudHeld_l6_s, if_pos (by simp; omega), if_pos (by omega), Int.toNat_natCast, i_HndRef_is_eq]
        simp only [Option.bind_some, i_AudHeld_j10_eq, W_succ (show j ≤ 4000000000 by omega)]
        rw [drop_cons (i := j) ((0:Int), (0:Int)) (by omega)]
        simp only [List.map_cons, List.flatten_cons]
        generalize (r.getD j ((0:Int), (0:Int))).1 = x
        unfold pos1
        by_cases hx : 0 < x
        · rw [if_pos (by simpa using hx), if_pos (by rw [LB_eq]; simp only [List.length_cons, List.length_nil]; omega), if_pos hx, ihq (j + 1) n1 _ hr (by omega) (by omega) (by simp; omega)]
          simp [pos1]
        · rw [if_neg (by simpa using hx), if_neg hx, ihq (j + 1) n1 _ hr (by omega) (by omega) (by omega)]
          simp [pos1]
    rw [i_AudHeld_l3_s, if_pos (by simp; omega), if_pos (by omega), Int.toNat_natCast, drop_cons (i := i) HhZ (by omega)]
    have := key [((hs.getD i HhZ).2.2.2.2.2.2.2.1.1, (hs.getD i HhZ).2.2.2.2.2.2.2.1.2), ((hs.getD i HhZ).2.2.2.2.2.2.2.2.1.1, (hs.getD i HhZ).2.2.2.2.2.2.2.2.1.2)] 2 0 k acc (by simp) (by simp) (by omega) (by omega)
    rw [show ((0 : Nat) : Int) = 0 from rfl] at this
    rw [this]
    have e2 : ((([((hs.getD i HhZ).2.2.2.2.2.2.2.1.1, (hs.getD i HhZ).2.2.2.2.2.2.2.1.2), ((hs.getD i HhZ).2.2.2.2.2.2.2.2.1.1, (hs.getD i HhZ).2.2.2.2.2.2.2.2.1.2)] : List (Int × Int)).drop 0).map (fun x => pos1 x.1)).flatten = pos1 (ownAt (hs.getD i HhZ)) ++ pos1 (oldAt (hs.getD i HhZ)) := by
      simp [ownAt, oldAt]
    rw [e2, ih _ (by
      have h1 := pos1_len (ownAt (hs.getD i HhZ))
      have h2 := pos1_len (oldAt (hs.getD i HhZ))
      simp only [List.length_append]
      omega)]
    simp [heldOf]
theorem i_AudHeld_v (hk : 2000000 ≤ k) (a : List Nd) (t f z e : Int) (p : List Int) {hs : List Hh} (c : Int) (lg : List Lr) (l : List (List Po)) (hl : hs.length ≤ 1048576) : i_AudHeld k a t f z e p hs c lg l = some (l, heldOf hs, ()) := by
  rw [i_AudHeld_eq]
  have := i_AudHeld_l3_v hk (l := l) hl hs.length 0 k [] (by omega) (by omega) (by simp)
  simpa using this
end
end Go.Proofs.Ytiooamodldgalaa.Abs
