/-
The map's entries, and the state: the plain functions of the program, of the reference and of the laws, in closed form.
-/
import Derived.Test.YtiooamodldgalaaArnL
set_option linter.unusedVariables false
set_option linter.unusedSimpArgs false
namespace Go.Proofs.Ytiooamodldgalaa.Abs
open Go

section
variable {k : Nat} {a : List Nd}
def mapOf (a : List Nd) : List Int → List (Int × Int)
  | [] => []
  | x :: r => if wmk (wd a x) then mapOf a r else ((a.getD x.toNat Z).1, (a.getD x.toNat Z).2.1) :: mapOf a r
theorem mapOf_len : ∀ q : List Int, (mapOf a q).length ≤ q.length
  | [] => Nat.le_refl _
  | x :: r => by
    unfold mapOf
    have := mapOf_len r
    split <;> simp <;> omega

theorem s_ArnMap_l6_v (ha : a.length = 10) {t f l : Int} {q : List Int} (hq : In q) (hs : q.length ≤ 1000) (z : List (Int × Int)) : ∀ (m i n : Nat) (acc : List (Int × Int)), i + m = q.length → m + 1 ≤ n → acc.length ≤ i → s_ArnMap_l6 k n (i : Int) a t f l q z acc = some (acc ++ mapOf a (q.drop i), ())
  | m, i, 0, _, _, h, _ => by omega
  | 0, i, n + 1, acc, hi, _, _ => by
    rw [s_ArnMap_l6_s, if_neg (by simp; omega), List.drop_of_length_le (by omega)]
    simp [mapOf]
  | m + 1, i, n + 1, acc, hi, hn, hl => by
    have hx := hq.at (i := i) (by omega)
    rw [s_ArnMap_l6_s, if_pos (by simp; omega), if_pos (by omega), Int.toNat_natCast, if_pos (by omega), s_WrdMark_v, drop_cons (i := i) 0 (by omega)]
    simp only [Option.bind_some, mapOf]
    rw [show (List.getD a (q.getD i 0).toNat ((0:Int), ((0:Int), ((0:Int), ((0:Int), (false, (0:Int))))))).2.2.1 = wd a (q.getD i 0) from rfl]
    cases wmk (wd a (q.getD i 0)) with
    | true =>
      rw [if_neg (by simp), s_ArnMap_j7_eq, W_succ (by omega), s_ArnMap_l6_v ha hq hs z m (i + 1) n _ (by omega) (by omega) (by omega)]
      rfl
    | false =>
      rw [if_pos (by simp), if_pos (by rw [LB_eq]; simp; omega), s_ArnMap_j7_eq, W_succ (by omega), s_ArnMap_l6_v ha hq hs z m (i + 1) n _ (by omega) (by omega) (by simp; omega), List.append_assoc]
      rfl
theorem i_ArnMap_l5_v (ha : a.length = 10) {t f l : Int} {q : List Int} (hq : In q) (hs : q.length ≤ 1000) (z : List (Int × Int)) : ∀ (m i n : Nat) (acc : List (Int × Int)), i + m = q.length → m + 1 ≤ n → acc.length ≤ i → i_ArnMap_l5 k n (q.length : Int) (i : Int) a t f l q z acc = some (acc ++ mapOf a (q.drop i), ())
  | m, i, 0, _, _, h, _ => by omega
  | 0, i, n + 1, acc, hi, _, _ => by
    rw [i_ArnMap_l5_s, if_neg (by simp; omega), List.drop_of_length_le (by omega)]
    simp [mapOf]
  | m + 1, i, n + 1, acc, hi, hn, hl => by
    have hx := hq.at (i := i) (by omega)
    rw [i_ArnMap_l5_s, if_pos (by simp; omega), if_pos (by omega), Int.toNat_natCast, if_pos (by omega), i_WrdMark_v, drop_cons (i := i) 0 (by omega)]
    simp only [Option.bind_some, mapOf]
    rw [show (List.getD a (q.getD i 0).toNat ((0:Int), ((0:Int), ((0:Int), ((0:Int), (false, (0:Int))))))).2.2.1 = wd a (q.getD i 0) from rfl]
    cases wmk (wd a (q.getD i 0)) with
    | true =>
      rw [if_neg (by simp), i_ArnMap_j10_eq, W_succ (by omega), i_ArnMap_l5_v ha hq hs z m (i + 1) n _ (by omega) (by omega) (by omega)]
      rfl
    | false =>
      rw [if_pos (by simp), if_pos (by rw [LB_eq]; simp; omega), i_ArnMap_j10_eq, W_succ (by omega), i_ArnMap_l5_v ha hq hs z m (i + 1) n _ (by omega) (by omega) (by simp; omega), List.append_assoc]
      rfl
def mapVals (a : List Nd) (t f l : Int) : List (Int × Int) := if okA a t f l then mapOf a (chn a) else []
theorem mapVals_len (t f l : Int) : (mapVals a t f l).length ≤ 9 := by
  unfold mapVals
  split
  · have h1 := mapOf_len (a := a) (chn a)
    have h2 : (chn a).length ≤ 9 := frm_len a 9 _
    omega
  · simp
theorem s_ArnMap_v (hk : 2000000 ≤ k) (t f l : Int) : s_ArnMap k a t f l = some (mapVals a t f l, ()) := by
  rw [s_ArnMap_eq, s_ArnOk_v hk]
  unfold mapVals
  simp only [Option.bind_some]
  cases h : okA a t f l with
  | false => simp
  | true =>
    have hs := okA_shp h
    have ha := (shp_len hs).1
    have c1 : chainOf a t f l = chn a := by unfold chainOf; rw [hs]; rfl
    have l1 : (chn a).length ≤ 9 := frm_len a 9 _
    rw [if_neg (by simp), s_ArnChain_v hk, c1]
    simp only [Option.bind_some]
    have := s_ArnMap_l6_v (k := k) ha (t := t) (f := f) (l := l) (show In (chn a) from In_frm nx_range.1 nx_range.2) (by omega) [] (chn a).length 0 k [] (by omega) (by omega) (by simp)
    simpa using this
theorem i_ArnMap_v (hk : 2000000 ≤ k) (t f l : Int) : i_ArnMap k a t f l = some (mapVals a t f l, ()) := by
  rw [i_ArnMap_eq, i_ArnOk_v hk]
  unfold mapVals
  simp only [Option.bind_some]
  cases h : okA a t f l with
  | false => simp
  | true =>
    have hs := okA_shp h
    have ha := (shp_len hs).1
    have c1 : chainOf a t f l = chn a := by unfold chainOf; rw [hs]; rfl
    have l1 : (chn a).length ≤ 9 := frm_len a 9 _
    rw [if_neg (by simp), i_ArnChain_v hk, c1]
    simp only [Option.bind_some]
    have := i_ArnMap_l5_v (k := k) ha (t := t) (f := f) (l := l) (show In (chn a) from In_frm nx_range.1 nx_range.2) (by omega) [] (chn a).length 0 k [] (by omega) (by omega) (by simp)
    simpa using this

/-! ### The queue, and all of it -/
def queueVals (a : List Nd) (t f l : Int) : List Int := if okA a t f l then valsOf a ((stk a f).drop 1) else []
theorem queueVals_len (t f l : Int) : (queueVals a t f l).length ≤ 9 := by
  unfold queueVals
  split
  · have h2 : (stk a f).length ≤ 9 := frm_len a 9 _
    simp only [valsOf, List.length_map, List.length_drop]
    omega
  · simp
theorem In_drop {q : List Int} (h : In q) (n : Nat) : In (q.drop n) := fun y hy => h y (List.mem_of_mem_drop hy)
theorem stk_pos {f : Int} (h : 1 ≤ f) : 1 ≤ (stk a f).length := by
  unfold stk frm
  rw [if_neg (by omega)]
  simp
theorem s_ArnQueue_v (hk : 2000000 ≤ k) (t f l : Int) : s_ArnQueue k a t f l = some (queueVals a t f l, ()) := by
  rw [s_ArnQueue_eq, s_ArnOk_v hk]
  unfold queueVals
  simp only [Option.bind_some]
  cases h : okA a t f l with
  | false => simp
  | true =>
    have hs := okA_shp h
    obtain ⟨ha, ht0, ht1, hf0, hf1, _⟩ := shp_len hs
    have c2 : queueOf a t f l = stk a f := by unfold queueOf; rw [hs]; rfl
    have l2 : (stk a f).length ≤ 9 := frm_len a 9 _
    have l3 := stk_pos (a := a) hf0
    rw [if_neg (by simp), s_ArnQueued_v hk, c2]
    simp only [Option.bind_some]
    rw [if_pos (by omega), List.take_of_length_le (Nat.le_refl _), s_l2Vals_v hk ha (In_drop (show In (stk a f) from In_frm (by omega) hf1) 1) (by rw [List.length_drop]; omega)]
    rfl
theorem i_ArnQueue_v (hk : 2000000 ≤ k) (t f l : Int) : i_ArnQueue k a t f l = some (queueVals a t f l, ()) := by
  rw [i_ArnQueue_eq, i_ArnOk_v hk]
  unfold queueVals
  simp only [Option.bind_some]
  cases h : okA a t f l with
  | false => simp
  | true =>
    have hs := okA_shp h
    obtain ⟨ha, ht0, ht1, hf0, hf1, _⟩ := shp_len hs
    have c2 : queueOf a t f l = stk a f := by unfold queueOf; rw [hs]; rfl
    have l2 : (stk a f).length ≤ 9 := frm_len a 9 _
    have l3 := stk_pos (a := a) hf0
    rw [if_neg (by simp), i_ArnQueued_v hk, c2]
    simp only [Option.bind_some]
    rw [if_pos (by omega), List.take_of_length_le (Nat.le_refl _), i_values_v hk ha (In_drop (show In (stk a f) from In_frm (by omega) hf1) 1) (by rw [List.length_drop]; omega)]
    rfl
theorem s_LinOf_v (hk : 2000000 ≤ k) (t f l : Int) : s_LinOf k a t f l = some (mapVals a t f l, stackVals a t f l, queueVals a t f l, ()) := by
  rw [s_LinOf_eq, s_ArnMap_v hk, s_ArnStack_v hk, s_ArnQueue_v hk]
  rfl
theorem i_LinOf_v (hk : 2000000 ≤ k) (t f l : Int) : i_LinOf k a t f l = some (mapVals a t f l, stackVals a t f l, queueVals a t f l, ()) := by
  rw [i_LinOf_eq, i_ArnMap_v hk, i_ArnStack_v hk, i_ArnQueue_v hk]
  rfl

/-! ### What the laws do -/
theorem w_eqMapEntryS_l4_v {b : List (Int × Int)} (hs : b.length ≤ 1048576) : ∀ (m i n : Nat), i + m = b.length → m + 1 ≤ n → w_eqMapEntryS_l4 k n b b (i : Int) = some (true, ())
  | m, i, 0, _, h => by omega
  | 0, i, n + 1, hi, _ => by
    rw [w_eqMapEntryS_l4_s, if_neg (by simp; omega)]
  | m + 1, i, n + 1, hi, hn => by
    rw [w_eqMapEntryS_l4_s, if_pos (by simp; omega), if_pos (by omega), if_pos (by omega), w_eqMapEntry_eq]
    simp only [not_true_eq_false, decide_false, Bool.false_eq_true, if_false, Bool.not_true, Option.bind_some]
    rw [W_succ (by omega), w_eqMapEntryS_l4_v hs m (i + 1) n (by omega) (by omega)]
theorem w_eqMapMap_v (hk : 2000000 ≤ k) {b : List (Int × Int)} (hs : b.length ≤ 1048576) : w_eqMapMap k b b = some (true, ()) := by
  rw [w_eqMapMap_eq, w_eqMapEntryS_eq, if_neg (by simp)]
  have := w_eqMapEntryS_l4_v (k := k) hs b.length 0 k (by omega) (by omega)
  rw [show ((0 : Nat) : Int) = 0 from rfl] at this
  rw [this]
  rfl
def marks2 (v m : Nat) : List (Int × Int) := (List.range m).map fun j => (((v + 2 * j : Nat) : Int), ((v + 2 * j + 1 : Nat) : Int))
theorem marks2_succ (v m : Nat) : marks2 v (m + 1) = ((v : Int), ((v + 1 : Nat) : Int)) :: marks2 (v + 2) m := by
  unfold marks2
  rw [List.range_succ_eq_map]
  simp only [List.map_cons, List.map_map, Nat.mul_zero, Nat.add_zero]
  congr 1
  apply List.map_congr_left
  intro j _
  simp only [Function.comp]
  rw [show v + 2 * (j + 1) = v + 2 + 2 * j by omega]
theorem marks2_len (v m : Nat) : (marks2 v m).length = m := by simp [marks2]
theorem marks2_get {v m i : Nat} (h : i < m) : (marks2 v m).getD i ((0:Int), (0:Int)) = (((v + 2 * i : Nat) : Int), ((v + 2 * i + 1 : Nat) : Int)) := by
  rw [getD_lt (by rw [marks2_len]; exact h)]
  simp [marks2]
theorem getD_set_same {α : Type} {l : List α} {i : Nat} {x d : α} (h : i < l.length) : (l.set i x).getD i d = x := by
  rw [getD_lt (by simpa using h)]
  simp
theorem w_markMapEntryS_l2_v : ∀ (m i n v : Nat) (b : List (Int × Int)), i + m = b.length → m + 1 ≤ n → v + 2 * m ≤ 100000000 → b.length ≤ 1048576 → w_markMapEntryS_l2 k n (v : Int) (i : Int) b = some (((v + 2 * m : Nat) : Int), b.take i ++ marks2 v m, ())
  | m, i, 0, _, _, _, h, _, _ => by omega
  | 0, i, n + 1, v, b, hi, _, _, _ => by
    rw [w_markMapEntryS_l2_s, if_neg (by simp; omega), List.take_of_length_le (by omega)]
    simp [marks2]
  | m + 1, i, n + 1, v, b, hi, hn, hv, hl => by
    rw [w_markMapEntryS_l2_s, if_pos (by simp; omega), if_pos (by omega), if_pos (by rw [List.length_set]; omega), Int.toNat_natCast, W_succ (i := v) (by omega), W_succ (i := v + 1) (by omega), W_succ (i := i) (by omega), getD_set_same (by omega), List.set_set,
      w_markMapEntryS_l2_v m (i + 1) n (v + 1 + 1) _ (by simp; omega) (by omega) (by omega) (by simp; omega), marks2_succ]
    rw [List.take_add_one, List.getElem?_set_self (by omega), List.take_set_of_le (Nat.le_refl _)]
    rw [show v + 1 + 1 + 2 * m = v + 2 * (m + 1) by omega]
    simp
theorem w_markMapMap_v (hk : 2000000 ≤ k) {b : List (Int × Int)} (hs : b.length ≤ 1048576) : w_markMapMap k 1 b = some (((1 + 2 * b.length : Nat) : Int), marks2 1 b.length, ()) := by
  rw [w_markMapMap_eq, w_markMapEntryS_eq]
  have := w_markMapEntryS_l2_v (k := k) b.length 0 k 1 b (by omega) (by omega) (by omega) hs
  rw [show ((0 : Nat) : Int) = 0 from rfl, show ((1 : Nat) : Int) = 1 from rfl] at this
  rw [this]
  simp
theorem w_heldMapEntryS_l2_v {v m0 : Nat} (hm : m0 ≤ 1048576) (hv : v ≤ 1000) : ∀ (m i n : Nat), i + m = m0 → m + 1 ≤ n → w_heldMapEntryS_l2 k n (marks2 v m0) ((v + 2 * i : Nat) : Int) (i : Int) = some (((v + 2 * m0 : Nat) : Int), ())
  | m, i, 0, _, h => by omega
  | 0, i, n + 1, hi, _ => by
    rw [w_heldMapEntryS_l2_s, if_neg (by simp [marks2_len]; omega)]
    rw [show i = m0 by omega]
  | m + 1, i, n + 1, hi, hn => by
    have hii : (0:Int) ≤ (i : Int) ∧ (i : Int) < ((marks2 v m0).length : Int) := by rw [marks2_len]; omega
    rw [w_heldMapEntryS_l2_s, if_pos (by simp [marks2_len]; omega), if_pos hii, if_pos hii, Int.toNat_natCast, marks2_get (by omega), W_succ (i := v + 2 * i) (by omega), W_succ (i := v + 2 * i + 1) (by omega), if_neg (by simp), if_neg (by simp), W_succ (i := i) (by omega)]
    have := w_heldMapEntryS_l2_v hm hv m (i + 1) n (by omega) (by omega)
    rw [show v + 2 * (i + 1) = v + 2 * i + 1 + 1 by omega] at this
    exact this
theorem w_heldMapMap_v (hk : 2000000 ≤ k) {m : Nat} (hm : m ≤ 1048576) : w_heldMapMap k (marks2 1 m) 1 = some (((1 + 2 * m : Nat) : Int), ()) := by
  rw [w_heldMapMap_eq, w_heldMapEntryS_eq]
  have := w_heldMapEntryS_l2_v (k := k) hm (v := 1) (by omega) m 0 k (by omega) (by omega)
  rw [show ((1 + 2 * 0 : Nat) : Int) = 1 from rfl, show ((0 : Nat) : Int) = 0 from rfl] at this
  rw [this]
  simp only [Option.bind_some]
  rw [if_neg (by simp; omega)]
theorem w_eqLinState_v (hk : 2000000 ≤ k) {b : List (Int × Int)} {s q : List Int} (h1 : b.length ≤ 1048576) (h2 : s.length ≤ 1048576) (h3 : q.length ≤ 1048576) : w_eqLinState k b s q b s q = some (true, ()) := by
  rw [w_eqLinState_eq, w_eqMapMap_v hk h1]
  simp only [Option.bind_some]
  rw [if_neg (by simp), w_eqIntS_v hk h2]
  simp only [Option.bind_some]
  rw [if_neg (by simp), w_eqIntS_v hk h3]
  rfl
theorem w_markLinState_v (hk : 2000000 ≤ k) {b : List (Int × Int)} {s q : List Int} (h1 : b.length ≤ 1000000) (h2 : s.length ≤ 1000000) (h3 : q.length ≤ 1000000) :
    w_markLinState k 1 b s q = some (((1 + 2 * b.length + s.length + q.length : Nat) : Int), marks2 1 b.length, marks (1 + 2 * b.length) s.length, marks (1 + 2 * b.length + s.length) q.length, ()) := by
  rw [w_markLinState_eq, w_markMapMap_v hk (by omega)]
  simp only [Option.bind_some]
  rw [w_markIntS_vv hk (by omega) (by omega)]
  simp only [Option.bind_some]
  rw [w_markIntS_vv hk (by omega) (by omega)]
  rfl
theorem w_heldLinState_v (hk : 2000000 ≤ k) {m n o : Nat} (h1 : m ≤ 1000000) (h2 : n ≤ 1000000) (h3 : o ≤ 1000000) :
    w_heldLinState k (marks2 1 m) (marks (1 + 2 * m) n) (marks (1 + 2 * m + n) o) 1 = some (((1 + 2 * m + n + o : Nat) : Int), ()) := by
  rw [w_heldLinState_eq, w_heldMapMap_v hk (by omega)]
  simp only [Option.bind_some]
  rw [if_neg (by simp; omega), w_heldIntS_vv hk (by omega) (by omega)]
  simp only [Option.bind_some]
  rw [if_neg (by simp; omega), w_heldIntS_vv hk (by omega) (by omega)]
  simp only [Option.bind_some]
  rw [if_neg (by simp; omega)]
end
end Go.Proofs.Ytiooamodldgalaa.Abs
