/-
Worlds: the laws' conversions, comparisons and sizes, in closed form.
-/
import Derived.Test.YtiooamodldgalaaArnM
set_option linter.unusedVariables false
set_option linter.unusedSimpArgs false
namespace Go.Proofs.Ytiooamodldgalaa.Abs
open Go

abbrev Hh := (Int × ((Int × (Int × Int)) × (Int × ((Int × Int) × ((Int × Int) × (Int × (Int × ((Int × Int) × ((Int × Int) × (Int × (Int × ((Int × Int) × (Int × (Bool × (ByteArray × (ByteArray × (Int × Int)))))))))))))))))
abbrev HhZ : Hh := ((0:Int), (((0:Int), ((0:Int), (0:Int))), ((0:Int), (((0:Int), (0:Int)), (((0:Int), (0:Int)), ((0:Int), ((0:Int), (((0:Int), (0:Int)), (((0:Int), (0:Int)), ((0:Int), ((0:Int), (((0:Int), (0:Int)), ((0:Int), (false, (ByteArray.empty, (ByteArray.empty, ((0:Int), (0:Int))))))))))))))))))
abbrev Lr := (Int × ((Int × (Int × Int)) × ((Int × Int) × (Int × (Int × Int)))))
abbrev LrZ : Lr := ((0:Int), (((0:Int), ((0:Int), (0:Int))), (((0:Int), (0:Int)), ((0:Int), ((0:Int), (0:Int))))))
abbrev Po := (Int × Int)
abbrev PoZ : Po := ((0:Int), (0:Int))
section
variable {k : Nat}

theorem w_toHndHand_v (h : Hh) : w_toHndHand k h.1 h.2.1.1 h.2.1.2.1 h.2.1.2.2 h.2.2.1 h.2.2.2.1.1 h.2.2.2.1.2 h.2.2.2.2.1.1 h.2.2.2.2.1.2 h.2.2.2.2.2.1 h.2.2.2.2.2.2.1 h.2.2.2.2.2.2.2.1.1 h.2.2.2.2.2.2.2.1.2 h.2.2.2.2.2.2.2.2.1.1 h.2.2.2.2.2.2.2.2.1.2 h.2.2.2.2.2.2.2.2.2.1 h.2.2.2.2.2.2.2.2.2.2.1 h.2.2.2.2.2.2.2.2.2.2.2.1.1 h.2.2.2.2.2.2.2.2.2.2.2.1.2 h.2.2.2.2.2.2.2.2.2.2.2.2.1 h.2.2.2.2.2.2.2.2.2.2.2.2.2.1 h.2.2.2.2.2.2.2.2.2.2.2.2.2.2.1 h.2.2.2.2.2.2.2.2.2.2.2.2.2.2.2.1 h.2.2.2.2.2.2.2.2.2.2.2.2.2.2.2.2.1 h.2.2.2.2.2.2.2.2.2.2.2.2.2.2.2.2.2 = some (h.1, h.2.1.1, h.2.1.2.1, h.2.1.2.2, h.2.2.1, h.2.2.2.1.1, h.2.2.2.1.2, h.2.2.2.2.1.1, h.2.2.2.2.1.2, h.2.2.2.2.2.1, h.2.2.2.2.2.2.1, h.2.2.2.2.2.2.2.1.1, h.2.2.2.2.2.2.2.1.2, h.2.2.2.2.2.2.2.2.1.1, h.2.2.2.2.2.2.2.2.1.2, h.2.2.2.2.2.2.2.2.2.1, h.2.2.2.2.2.2.2.2.2.2.1, h.2.2.2.2.2.2.2.2.2.2.2.1.1, h.2.2.2.2.2.2.2.2.2.2.2.1.2, h.2.2.2.2.2.2.2.2.2.2.2.2.1, h.2.2.2.2.2.2.2.2.2.2.2.2.2.1, h.2.2.2.2.2.2.2.2.2.2.2.2.2.2.1, h.2.2.2.2.2.2.2.2.2.2.2.2.2.2.2.1, h.2.2.2.2.2.2.2.2.2.2.2.2.2.2.2.2.1, h.2.2.2.2.2.2.2.2.2.2.2.2.2.2.2.2.2, ()) := by
  rw [w_toHndHand_eq]
  simp only [w_toOpOp_eq, w_toHndRef_eq, w_toResRes_eq, Option.bind_some]

theorem w_eqHndHand_v (h : Hh) : w_eqHndHand k h.1 h.2.1.1 h.2.1.2.1 h.2.1.2.2 h.2.2.1 h.2.2.2.1.1 h.2.2.2.1.2 h.2.2.2.2.1.1 h.2.2.2.2.1.2 h.2.2.2.2.2.1 h.2.2.2.2.2.2.1 h.2.2.2.2.2.2.2.1.1 h.2.2.2.2.2.2.2.1.2 h.2.2.2.2.2.2.2.2.1.1 h.2.2.2.2.2.2.2.2.1.2 h.2.2.2.2.2.2.2.2.2.1 h.2.2.2.2.2.2.2.2.2.2.1 h.2.2.2.2.2.2.2.2.2.2.2.1.1 h.2.2.2.2.2.2.2.2.2.2.2.1.2 h.2.2.2.2.2.2.2.2.2.2.2.2.1 h.2.2.2.2.2.2.2.2.2.2.2.2.2.1 h.2.2.2.2.2.2.2.2.2.2.2.2.2.2.1 h.2.2.2.2.2.2.2.2.2.2.2.2.2.2.2.1 h.2.2.2.2.2.2.2.2.2.2.2.2.2.2.2.2.1 h.2.2.2.2.2.2.2.2.2.2.2.2.2.2.2.2.2 h.1 h.2.1.1 h.2.1.2.1 h.2.1.2.2 h.2.2.1 h.2.2.2.1.1 h.2.2.2.1.2 h.2.2.2.2.1.1 h.2.2.2.2.1.2 h.2.2.2.2.2.1 h.2.2.2.2.2.2.1 h.2.2.2.2.2.2.2.1.1 h.2.2.2.2.2.2.2.1.2 h.2.2.2.2.2.2.2.2.1.1 h.2.2.2.2.2.2.2.2.1.2 h.2.2.2.2.2.2.2.2.2.1 h.2.2.2.2.2.2.2.2.2.2.1 h.2.2.2.2.2.2.2.2.2.2.2.1.1 h.2.2.2.2.2.2.2.2.2.2.2.1.2 h.2.2.2.2.2.2.2.2.2.2.2.2.1 h.2.2.2.2.2.2.2.2.2.2.2.2.2.1 h.2.2.2.2.2.2.2.2.2.2.2.2.2.2.1 h.2.2.2.2.2.2.2.2.2.2.2.2.2.2.2.1 h.2.2.2.2.2.2.2.2.2.2.2.2.2.2.2.2.1 h.2.2.2.2.2.2.2.2.2.2.2.2.2.2.2.2.2 = some (true, ()) := by
  rw [w_eqHndHand_eq]
  simp only [w_eqOpOp_eq, w_eqHndRef_eq, w_eqResRes_eq, not_true_eq_false, decide_false, Bool.false_eq_true, if_false, BEq.rfl, Bool.not_true, Option.bind_some]

theorem w_toHndHandS_l3_v {a : List Hh} (hs : a.length ≤ 1048576) : ∀ (m i n : Nat) (b : List Hh), i + m = a.length → m + 1 ≤ n → b.length = a.length → w_toHndHandS_l3 k n a (i : Int) b = some (b.take i ++ a.drop i, ())
  | m, i, 0, _, _, h, _ => by omega
  | 0, i, n + 1, b, hi, _, hb => by
    rw [w_toHndHandS_l3_s, if_neg (by simp; omega), List.drop_of_length_le (by omega), List.take_of_length_le (by omega)]
    simp
  | m + 1, i, n + 1, b, hi, hn, hb => by
    rw [w_toHndHandS_l3_s, if_pos (by simp; omega), if_pos (by omega), Int.toNat_natCast, w_toHndHand_v]
    simp only [Option.bind_some]
    rw [if_pos (by omega), W_succ (by omega), w_toHndHandS_l3_v hs m (i + 1) n _ (by omega) (by omega) (by simp [hb]), drop_cons (i := i) HhZ (by omega)]
    congr 2
    rw [List.take_add_one, List.getElem?_set_self (by omega), List.take_set_of_le (Nat.le_refl _)]
    simp
theorem w_toHndHandS_v (hk : 2000000 ≤ k) {a : List Hh} (hs : a.length ≤ 1048576) : w_toHndHandS k a = some (a, ()) := by
  rw [w_toHndHandS_eq, if_pos (by rw [LB_eq]; omega), Int.toNat_natCast]
  have := w_toHndHandS_l3_v (k := k) hs a.length 0 k (List.replicate a.length HhZ) (by omega) (by omega) (by simp)
  rw [show ((0 : Nat) : Int) = 0 from rfl] at this
  rw [this]
  simp
theorem w_eqHndHandS_l4_v {a : List Hh} (hs : a.length ≤ 1048576) : ∀ (m i n : Nat), i + m = a.length → m + 1 ≤ n → w_eqHndHandS_l4 k n a a (i : Int) = some (true, ())
  | m, i, 0, _, h => by omega
  | 0, i, n + 1, hi, _ => by
    rw [w_eqHndHandS_l4_s, if_neg (by simp; omega)]
  | m + 1, i, n + 1, hi, hn => by
    rw [w_eqHndHandS_l4_s, if_pos (by simp; omega), if_pos (by omega), if_pos (by omega), w_eqHndHand_v]
    simp only [Bool.not_true, Bool.false_eq_true, if_false, Option.bind_some]
    rw [W_succ (by omega), w_eqHndHandS_l4_v hs m (i + 1) n (by omega) (by omega)]
theorem w_eqHndHandS_v (hk : 2000000 ≤ k) {a : List Hh} (hs : a.length ≤ 1048576) : w_eqHndHandS k a a = some (true, ()) := by
  rw [w_eqHndHandS_eq, if_neg (by simp)]
  have := w_eqHndHandS_l4_v (k := k) hs a.length 0 k (by omega) (by omega)
  rw [show ((0 : Nat) : Int) = 0 from rfl] at this
  rw [this]

theorem w_toLogRec_v (h : Lr) : w_toLogRec k h.1 h.2.1.1 h.2.1.2.1 h.2.1.2.2 h.2.2.1.1 h.2.2.1.2 h.2.2.2.1 h.2.2.2.2.1 h.2.2.2.2.2 = some (h.1, h.2.1.1, h.2.1.2.1, h.2.1.2.2, h.2.2.1.1, h.2.2.1.2, h.2.2.2.1, h.2.2.2.2.1, h.2.2.2.2.2, ()) := by
  rw [w_toLogRec_eq]
  simp only [w_toOpOp_eq, w_toHndRef_eq, w_toResRes_eq, Option.bind_some]

theorem w_eqLogRec_v (h : Lr) : w_eqLogRec k h.1 h.2.1.1 h.2.1.2.1 h.2.1.2.2 h.2.2.1.1 h.2.2.1.2 h.2.2.2.1 h.2.2.2.2.1 h.2.2.2.2.2 h.1 h.2.1.1 h.2.1.2.1 h.2.1.2.2 h.2.2.1.1 h.2.2.1.2 h.2.2.2.1 h.2.2.2.2.1 h.2.2.2.2.2 = some (true, ()) := by
  rw [w_eqLogRec_eq]
  simp only [w_eqOpOp_eq, w_eqHndRef_eq, w_eqResRes_eq, not_true_eq_false, decide_false, Bool.false_eq_true, if_false, BEq.rfl, Bool.not_true, Option.bind_some]

theorem w_toLogRecS_l3_v {a : List Lr} (hs : a.length ≤ 1048576) : ∀ (m i n : Nat) (b : List Lr), i + m = a.length → m + 1 ≤ n → b.length = a.length → w_toLogRecS_l3 k n a (i : Int) b = some (b.take i ++ a.drop i, ())
  | m, i, 0, _, _, h, _ => by omega
  | 0, i, n + 1, b, hi, _, hb => by
    rw [w_toLogRecS_l3_s, if_neg (by simp; omega), List.drop_of_length_le (by omega), List.take_of_length_le (by omega)]
    simp
  | m + 1, i, n + 1, b, hi, hn, hb => by
    rw [w_toLogRecS_l3_s, if_pos (by simp; omega), if_pos (by omega), Int.toNat_natCast, w_toLogRec_v]
    simp only [Option.bind_some]
    rw [if_pos (by omega), W_succ (by omega), w_toLogRecS_l3_v hs m (i + 1) n _ (by omega) (by omega) (by simp [hb]), drop_cons (i := i) LrZ (by omega)]
    congr 2
    rw [List.take_add_one, List.getElem?_set_self (by omega), List.take_set_of_le (Nat.le_refl _)]
    simp
theorem w_toLogRecS_v (hk : 2000000 ≤ k) {a : List Lr} (hs : a.length ≤ 1048576) : w_toLogRecS k a = some (a, ()) := by
  rw [w_toLogRecS_eq, if_pos (by rw [LB_eq]; omega), Int.toNat_natCast]
  have := w_toLogRecS_l3_v (k := k) hs a.length 0 k (List.replicate a.length LrZ) (by omega) (by omega) (by simp)
  rw [show ((0 : Nat) : Int) = 0 from rfl] at this
  rw [this]
  simp
theorem w_eqLogRecS_l4_v {a : List Lr} (hs : a.length ≤ 1048576) : ∀ (m i n : Nat), i + m = a.length → m + 1 ≤ n → w_eqLogRecS_l4 k n a a (i : Int) = some (true, ())
  | m, i, 0, _, h => by omega
  | 0, i, n + 1, hi, _ => by
    rw [w_eqLogRecS_l4_s, if_neg (by simp; omega)]
  | m + 1, i, n + 1, hi, hn => by
    rw [w_eqLogRecS_l4_s, if_pos (by simp; omega), if_pos (by omega), if_pos (by omega), w_eqLogRec_v]
    simp only [Bool.not_true, Bool.false_eq_true, if_false, Option.bind_some]
    rw [W_succ (by omega), w_eqLogRecS_l4_v hs m (i + 1) n (by omega) (by omega)]
theorem w_eqLogRecS_v (hk : 2000000 ≤ k) {a : List Lr} (hs : a.length ≤ 1048576) : w_eqLogRecS k a a = some (true, ()) := by
  rw [w_eqLogRecS_eq, if_neg (by simp)]
  have := w_eqLogRecS_l4_v (k := k) hs a.length 0 k (by omega) (by omega)
  rw [show ((0 : Nat) : Int) = 0 from rfl] at this
  rw [this]

theorem w_toPolOld_v (h : Po) : w_toPolOld k h.1 h.2 = some (h.1, h.2, ()) := by
  rw [w_toPolOld_eq]

theorem w_eqPolOld_v (h : Po) : w_eqPolOld k h.1 h.2 h.1 h.2 = some (true, ()) := by
  rw [w_eqPolOld_eq]
  simp only [not_true_eq_false, decide_false, Bool.false_eq_true, if_false, BEq.rfl, Bool.not_true, Option.bind_some]

theorem w_toPolOldS_l3_v {a : List Po} (hs : a.length ≤ 1048576) : ∀ (m i n : Nat) (b : List Po), i + m = a.length → m + 1 ≤ n → b.length = a.length → w_toPolOldS_l3 k n a (i : Int) b = some (b.take i ++ a.drop i, ())
  | m, i, 0, _, _, h, _ => by omega
  | 0, i, n + 1, b, hi, _, hb => by
    rw [w_toPolOldS_l3_s, if_neg (by simp; omega), List.drop_of_length_le (by omega), List.take_of_length_le (by omega)]
    simp
  | m + 1, i, n + 1, b, hi, hn, hb => by
    rw [w_toPolOldS_l3_s, if_pos (by simp; omega), if_pos (by omega), Int.toNat_natCast, w_toPolOld_v]
    simp only [Option.bind_some]
    rw [if_pos (by omega), W_succ (by omega), w_toPolOldS_l3_v hs m (i + 1) n _ (by omega) (by omega) (by simp [hb]), drop_cons (i := i) PoZ (by omega)]
    congr 2
    rw [List.take_add_one, List.getElem?_set_self (by omega), List.take_set_of_le (Nat.le_refl _)]
    simp
theorem w_toPolOldS_v (hk : 2000000 ≤ k) {a : List Po} (hs : a.length ≤ 1048576) : w_toPolOldS k a = some (a, ()) := by
  rw [w_toPolOldS_eq, if_pos (by rw [LB_eq]; omega), Int.toNat_natCast]
  have := w_toPolOldS_l3_v (k := k) hs a.length 0 k (List.replicate a.length PoZ) (by omega) (by omega) (by simp)
  rw [show ((0 : Nat) : Int) = 0 from rfl] at this
  rw [this]
  simp
theorem w_eqPolOldS_l4_v {a : List Po} (hs : a.length ≤ 1048576) : ∀ (m i n : Nat), i + m = a.length → m + 1 ≤ n → w_eqPolOldS_l4 k n a a (i : Int) = some (true, ())
  | m, i, 0, _, h => by omega
  | 0, i, n + 1, hi, _ => by
    rw [w_eqPolOldS_l4_s, if_neg (by simp; omega)]
  | m + 1, i, n + 1, hi, hn => by
    rw [w_eqPolOldS_l4_s, if_pos (by simp; omega), if_pos (by omega), if_pos (by omega), w_eqPolOld_v]
    simp only [Bool.not_true, Bool.false_eq_true, if_false, Option.bind_some]
    rw [W_succ (by omega), w_eqPolOldS_l4_v hs m (i + 1) n (by omega) (by omega)]
theorem w_eqPolOldS_v (hk : 2000000 ≤ k) {a : List Po} (hs : a.length ≤ 1048576) : w_eqPolOldS k a a = some (true, ()) := by
  rw [w_eqPolOldS_eq, if_neg (by simp)]
  have := w_eqPolOldS_l4_v (k := k) hs a.length 0 k (by omega) (by omega)
  rw [show ((0 : Nat) : Int) = 0 from rfl] at this
  rw [this]

theorem w_toIntS_l3_v {a : List Int} (hs : a.length ≤ 1048576) : ∀ (m i n : Nat) (b : List Int), i + m = a.length → m + 1 ≤ n → b.length = a.length → w_toIntS_l3 k n a (i : Int) b = some (b.take i ++ a.drop i, ())
  | m, i, 0, _, _, h, _ => by omega
  | 0, i, n + 1, b, hi, _, hb => by
    rw [w_toIntS_l3_s, if_neg (by simp; omega), List.drop_of_length_le (by omega), List.take_of_length_le (by omega)]
    simp
  | m + 1, i, n + 1, b, hi, hn, hb => by
    rw [w_toIntS_l3_s, if_pos (by simp; omega), if_pos (by omega), Int.toNat_natCast, if_pos (by omega), W_succ (by omega), w_toIntS_l3_v hs m (i + 1) n _ (by omega) (by omega) (by simp [hb]), drop_cons (i := i) 0 (by omega)]
    congr 2
    rw [List.take_add_one, List.getElem?_set_self (by omega), List.take_set_of_le (Nat.le_refl _)]
    simp
theorem w_toIntS_v (hk : 2000000 ≤ k) {a : List Int} (hs : a.length ≤ 1048576) : w_toIntS k a = some (a, ()) := by
  rw [w_toIntS_eq, if_pos (by rw [LB_eq]; omega), Int.toNat_natCast]
  have := w_toIntS_l3_v (k := k) hs a.length 0 k (List.replicate a.length 0) (by omega) (by omega) (by simp)
  rw [show ((0 : Nat) : Int) = 0 from rfl] at this
  rw [this]
  simp
theorem w_toPolOldSS_l3_v (hk : 2000000 ≤ k) {a : List (List Po)} (hs : a.length ≤ 1048576) (hi2 : ∀ y ∈ a, y.length ≤ 1048576) : ∀ (m i n : Nat) (b : List (List Po)), i + m = a.length → m + 1 ≤ n → b.length = a.length → w_toPolOldSS_l3 k n a (i : Int) b = some (b.take i ++ a.drop i, ())
  | m, i, 0, _, _, h, _ => by omega
  | 0, i, n + 1, b, hi, _, hb => by
    rw [w_toPolOldSS_l3_s, if_neg (by simp; omega), List.drop_of_length_le (by omega), List.take_of_length_le (by omega)]
    simp
  | m + 1, i, n + 1, b, hi, hn, hb => by
    rw [w_toPolOldSS_l3_s, if_pos (by simp; omega), if_pos (by omega), Int.toNat_natCast, w_toPolOldS_v hk (hi2 _ (by rw [getD_lt (show i < a.length by omega)]; exact List.getElem_mem _))]
    simp only [Option.bind_some]
    rw [if_pos (by omega), W_succ (by omega), w_toPolOldSS_l3_v hk hs hi2 m (i + 1) n _ (by omega) (by omega) (by simp [hb]), drop_cons (i := i) [] (by omega)]
    congr 2
    rw [List.take_add_one, List.getElem?_set_self (by omega), List.take_set_of_le (Nat.le_refl _)]
    simp
theorem w_toPolOldSS_v (hk : 2000000 ≤ k) {a : List (List Po)} (hs : a.length ≤ 1048576) (hi2 : ∀ y ∈ a, y.length ≤ 1048576) : w_toPolOldSS k a = some (a, ()) := by
  rw [w_toPolOldSS_eq, if_pos (by rw [LB_eq]; omega), Int.toNat_natCast]
  have := w_toPolOldSS_l3_v hk hs hi2 a.length 0 k (List.replicate a.length []) (by omega) (by omega) (by simp)
  rw [show ((0 : Nat) : Int) = 0 from rfl] at this
  rw [this]
  simp
theorem w_eqPolOldSS_l4_v (hk : 2000000 ≤ k) {a : List (List Po)} (hs : a.length ≤ 1048576) (hi2 : ∀ y ∈ a, y.length ≤ 1048576) : ∀ (m i n : Nat), i + m = a.length → m + 1 ≤ n → w_eqPolOldSS_l4 k n (i : Int) a a = some (true, a, a, ())
  | m, i, 0, _, h => by omega
  | 0, i, n + 1, hi, _ => by
    rw [w_eqPolOldSS_l4_s, if_neg (by simp; omega)]
  | m + 1, i, n + 1, hi, hn => by
    rw [w_eqPolOldSS_l4_s, if_pos (by simp; omega), if_pos (by omega), if_pos (by omega), Int.toNat_natCast, w_eqPolOldS_v hk (hi2 _ (by rw [getD_lt (show i < a.length by omega)]; exact List.getElem_mem _))]
    simp only [Bool.not_true, Bool.false_eq_true, if_false, Option.bind_some]
    rw [W_succ (by omega), w_eqPolOldSS_l4_v hk hs hi2 m (i + 1) n (by omega) (by omega)]
theorem w_eqPolOldSS_v (hk : 2000000 ≤ k) {a : List (List Po)} (hs : a.length ≤ 1048576) (hi2 : ∀ y ∈ a, y.length ≤ 1048576) : w_eqPolOldSS k a a = some (true, a, a, ()) := by
  rw [w_eqPolOldSS_eq, if_neg (by simp)]
  have := w_eqPolOldSS_l4_v hk hs hi2 a.length 0 k (by omega) (by omega)
  rw [show ((0 : Nat) : Int) = 0 from rfl] at this
  rw [this]

/-! ### Sizes -/
theorem W_sub {x : Int} {n : Nat} (h0 : 0 ≤ x) (h1 : x ≤ 1048576) (hn : n ≤ 9223372036854775807) : W (x - (n : Int)) = x - (n : Int) := by
  unfold W
  rw [IntKind.wrap_i64]
  omega
/-- What a size comes to: it is below zero, or nothing is too long. -/
def Sz (f : Option (Int × Unit)) (left : Int) (Q : Prop) : Prop := ∃ r : Int, f = some (r, ()) ∧ r ≤ left ∧ -1 ≤ r ∧ (0 ≤ r → Q)
theorem Sz.imp {f : Option (Int × Unit)} {left : Int} {Q Q' : Prop} (h : Sz f left Q) (hq : Q → Q') : Sz f left Q' := by
  obtain ⟨r, h1, h2, h3, h4⟩ := h
  exact ⟨r, h1, h2, h3, fun h0 => hq (h4 h0)⟩
theorem sz_len {α : Type} {l : List α} {x : Int} (h0 : 0 ≤ x) (h1 : x ≤ 1048576) (hn : l.length ≤ 9223372036854775807) :
    Sz (if (decide ((W (x - (List.length l : Int))) < (0:Int))) = true then (some ((-1:Int), ())) else (some ((W (x - (List.length l : Int))), ()))) x (l.length ≤ 1048576) := by
  rw [W_sub h0 h1 hn]
  by_cases h : x - (l.length : Int) < 0
  · rw [if_pos (by simpa using h)]
    exact ⟨-1, rfl, by omega, by omega, fun h => by omega⟩
  · rw [if_neg (by simpa using h)]
    exact ⟨_, rfl, by omega, by omega, fun h => by omega⟩
theorem w_szIntS_v {l : List Int} {x : Int} (h0 : 0 ≤ x) (h1 : x ≤ 1048576) (hn : l.length ≤ 9223372036854775807) : Sz (w_szIntS k l x) x (l.length ≤ 1048576) := by
  rw [w_szIntS_eq]
  exact sz_len h0 h1 hn
theorem w_szPolOldS_v {l : List Po} {x : Int} (h0 : 0 ≤ x) (h1 : x ≤ 1048576) (hn : l.length ≤ 9223372036854775807) : Sz (w_szPolOldS k l x) x (l.length ≤ 1048576) := by
  rw [w_szPolOldS_eq]
  exact sz_len h0 h1 hn
theorem w_szLogRecS_v {l : List Lr} {x : Int} (h0 : 0 ≤ x) (h1 : x ≤ 1048576) (hn : l.length ≤ 9223372036854775807) : Sz (w_szLogRecS k l x) x (l.length ≤ 1048576) := by
  rw [w_szLogRecS_eq]
  exact sz_len h0 h1 hn
theorem w_szHndHand_v (h : Hh) {x : Int} (h0 : 0 ≤ x) (h1 : x ≤ 1048576) (hs1 : (h.2.2.2.2.2.2.2.2.2.2.2.2.2.2.1).size ≤ 9223372036854775807) (hs2 : (h.2.2.2.2.2.2.2.2.2.2.2.2.2.2.2.1).size ≤ 9223372036854775807) : Sz (w_szHndHand k h.1 h.2.1.1 h.2.1.2.1 h.2.1.2.2 h.2.2.1 h.2.2.2.1.1 h.2.2.2.1.2 h.2.2.2.2.1.1 h.2.2.2.2.1.2 h.2.2.2.2.2.1 h.2.2.2.2.2.2.1 h.2.2.2.2.2.2.2.1.1 h.2.2.2.2.2.2.2.1.2 h.2.2.2.2.2.2.2.2.1.1 h.2.2.2.2.2.2.2.2.1.2 h.2.2.2.2.2.2.2.2.2.1 h.2.2.2.2.2.2.2.2.2.2.1 h.2.2.2.2.2.2.2.2.2.2.2.1.1 h.2.2.2.2.2.2.2.2.2.2.2.1.2 h.2.2.2.2.2.2.2.2.2.2.2.2.1 h.2.2.2.2.2.2.2.2.2.2.2.2.2.1 h.2.2.2.2.2.2.2.2.2.2.2.2.2.2.1 h.2.2.2.2.2.2.2.2.2.2.2.2.2.2.2.1 h.2.2.2.2.2.2.2.2.2.2.2.2.2.2.2.2.1 h.2.2.2.2.2.2.2.2.2.2.2.2.2.2.2.2.2 x) x True := by
  rw [w_szHndHand_eq, W_sub h0 h1 hs1]
  by_cases e : x - ((h.2.2.2.2.2.2.2.2.2.2.2.2.2.2.1).size : Int) < 0
  · rw [if_pos (by simpa using e)]
    exact ⟨-1, rfl, by omega, by omega, fun _ => trivial⟩
  · rw [if_neg (by simpa using e), W_sub (by omega) (by omega) hs2]
    by_cases e2 : x - ((h.2.2.2.2.2.2.2.2.2.2.2.2.2.2.1).size : Int) - ((h.2.2.2.2.2.2.2.2.2.2.2.2.2.2.2.1).size : Int) < 0
    · rw [if_pos (by simpa using e2)]
      exact ⟨-1, rfl, by omega, by omega, fun _ => trivial⟩
    · rw [if_neg (by simpa using e2)]
      exact ⟨_, rfl, by omega, by omega, fun _ => trivial⟩
theorem w_szHndHandS_l5_v {l : List Hh} (hl : l.length ≤ 1048576) (hb : ∀ h ∈ l, (h.2.2.2.2.2.2.2.2.2.2.2.2.2.2.1).size ≤ 9223372036854775807 ∧ (h.2.2.2.2.2.2.2.2.2.2.2.2.2.2.2.1).size ≤ 9223372036854775807) : ∀ (m i n : Nat) (x : Int), i + m = l.length → m + 1 ≤ n → 0 ≤ x → x ≤ 1048576 → Sz (w_szHndHandS_l5 k n l x (i : Int)) x True
  | m, i, 0, _, _, h, _, _ => by omega
  | 0, i, n + 1, x, hi, _, h0, h1 => by
    rw [w_szHndHandS_l5_s, if_neg (by simp; omega)]
    exact ⟨x, rfl, by omega, by omega, fun _ => trivial⟩
  | m + 1, i, n + 1, x, hi, hn, h0, h1 => by
    have hm : l.getD i HhZ ∈ l := by rw [getD_lt (show i < l.length by omega)]; exact List.getElem_mem _
    obtain ⟨r, e1, e2, e3, _⟩ := w_szHndHand_v (k := k) (l.getD i HhZ) h0 h1 (hb _ hm).1 (hb _ hm).2
    rw [w_szHndHandS_l5_s, if_pos (by simp; omega), if_pos (by omega), Int.toNat_natCast, e1]
    simp only [Option.bind_some]
    by_cases hr : r < 0
    · rw [if_pos (by simpa using hr)]
      exact ⟨-1, rfl, by omega, by omega, fun _ => trivial⟩
    · rw [if_neg (by simpa using hr), W_succ (by omega)]
      obtain ⟨q, f1, f2, f3, f4⟩ := w_szHndHandS_l5_v hl hb m (i + 1) n r (by omega) (by omega) (by omega) (by omega)
      exact ⟨q, f1, by omega, f3, f4⟩
theorem w_szHndHandS_v (hk : 2000000 ≤ k) {l : List Hh} (hn : l.length ≤ 9223372036854775807) (hb : ∀ h ∈ l, (h.2.2.2.2.2.2.2.2.2.2.2.2.2.2.1).size ≤ 9223372036854775807 ∧ (h.2.2.2.2.2.2.2.2.2.2.2.2.2.2.2.1).size ≤ 9223372036854775807) {x : Int} (h0 : 0 ≤ x) (h1 : x ≤ 1048576) : Sz (w_szHndHandS k l x) x (l.length ≤ 1048576) := by
  rw [w_szHndHandS_eq, W_sub h0 h1 hn]
  by_cases h : x - (l.length : Int) < 0
  · rw [if_pos (by simpa using h)]
    exact ⟨-1, rfl, by omega, by omega, fun h => by omega⟩
  · rw [if_neg (by simpa using h)]
    obtain ⟨q, f1, f2, f3, f4⟩ := w_szHndHandS_l5_v (k := k) (l := l) (by omega) hb l.length 0 k (x - (l.length : Int)) (by omega) (by omega) (by omega) (by omega)
    exact ⟨q, f1, by omega, f3, fun _ => by omega⟩
theorem w_szPolOldS_v2 {l : List Po} {x : Int} (h0 : 0 ≤ x) (h1 : x ≤ 1048576) (hn : l.length ≤ 9223372036854775807) : ∃ r : Int, w_szPolOldS k l x = some (r, ()) ∧ r ≤ x ∧ -1 ≤ r ∧ (0 ≤ r → (l.length : Int) + r ≤ x) := by
  rw [w_szPolOldS_eq, W_sub h0 h1 hn]
  by_cases h : x - (l.length : Int) < 0
  · rw [if_pos (by simpa using h)]
    exact ⟨-1, rfl, by omega, by omega, fun h => by omega⟩
  · rw [if_neg (by simpa using h)]
    exact ⟨_, rfl, by omega, by omega, fun h => by omega⟩
/-- How much lies in rows. -/
def tot (l : List (List Po)) : Nat := (l.map List.length).sum
theorem tot_cons (y : List Po) (l : List (List Po)) : tot (y :: l) = y.length + tot l := by simp [tot]
theorem tot_mem : ∀ {l : List (List Po)} {y : List Po}, y ∈ l → y.length ≤ tot l
  | z :: l, y, h => by
    rw [tot_cons]
    rcases List.mem_cons.1 h with rfl | h
    · omega
    · have := tot_mem h
      omega
theorem w_szPolOldSS_l5_v {l : List (List Po)} (hl : l.length ≤ 1048576) (hb : ∀ y ∈ l, y.length ≤ 9223372036854775807) : ∀ (m i n : Nat) (x : Int), i + m = l.length → m + 1 ≤ n → 0 ≤ x → x ≤ 1048576 → ∃ r : Int, w_szPolOldSS_l5 k n l x (i : Int) = some (r, ()) ∧ r ≤ x ∧ -1 ≤ r ∧ (0 ≤ r → (tot (l.drop i) : Int) + r ≤ x)
  | m, i, 0, _, _, h, _, _ => by omega
  | 0, i, n + 1, x, hi, _, h0, h1 => by
    rw [w_szPolOldSS_l5_s, if_neg (by simp; omega), List.drop_of_length_le (by omega)]
    exact ⟨x, rfl, by omega, by omega, fun _ => by simp [tot]⟩
  | m + 1, i, n + 1, x, hi, hn, h0, h1 => by
    have hm : l.getD i [] ∈ l := by rw [getD_lt (show i < l.length by omega)]; exact List.getElem_mem _
    obtain ⟨r, e1, e2, e3, e4⟩ := w_szPolOldS_v2 (k := k) h0 h1 (hb _ hm)
    rw [w_szPolOldSS_l5_s, if_pos (by simp; omega), if_pos (by omega), Int.toNat_natCast, e1, drop_cons (i := i) [] (by omega), tot_cons]
    simp only [Option.bind_some]
    by_cases hr : r < 0
    · rw [if_pos (by simpa using hr)]
      exact ⟨-1, rfl, by omega, by omega, fun h => by omega⟩
    · rw [if_neg (by simpa using hr), W_succ (by omega)]
      obtain ⟨q, f1, f2, f3, f4⟩ := w_szPolOldSS_l5_v hl hb m (i + 1) n r (by omega) (by omega) (by omega) (by omega)
      refine ⟨q, f1, by omega, f3, fun hq => ?_⟩
      have := f4 hq
      have := e4 (by omega)
      omega
theorem w_szPolOldSS_v (hk : 2000000 ≤ k) {l : List (List Po)} (hn : l.length ≤ 9223372036854775807) (hb : ∀ y ∈ l, y.length ≤ 9223372036854775807) {x : Int} (h0 : 0 ≤ x) (h1 : x ≤ 1048576) : Sz (w_szPolOldSS k l x) x (l.length ≤ 1048576 ∧ (∀ y ∈ l, y.length ≤ 1048576) ∧ tot l ≤ 1048576) := by
  rw [w_szPolOldSS_eq, W_sub h0 h1 hn]
  by_cases h : x - (l.length : Int) < 0
  · rw [if_pos (by simpa using h)]
    exact ⟨-1, rfl, by omega, by omega, fun h => by omega⟩
  · rw [if_neg (by simpa using h)]
    obtain ⟨q, f1, f2, f3, f4⟩ := w_szPolOldSS_l5_v (k := k) (l := l) (by omega) hb l.length 0 k (x - (l.length : Int)) (by omega) (by omega) (by omega) (by omega)
    refine ⟨q, f1, by omega, f3, fun hq => ?_⟩
    have e : tot l ≤ 1048576 := by
      have := f4 hq
      rw [List.drop_zero] at this
      omega
    exact ⟨by omega, fun y hy => Nat.le_trans (tot_mem hy) e, e⟩
theorem w_szPolPool_v (hk : 2000000 ≤ k) (e : Int) {p : List Int} {l : List (List Po)} (hp : p.length ≤ 9223372036854775807) (hn : l.length ≤ 9223372036854775807) (hb : ∀ y ∈ l, y.length ≤ 9223372036854775807) {x : Int} (h0 : 0 ≤ x) (h1 : x ≤ 1048576) :
    Sz (w_szPolPool k e p l x) x (p.length ≤ 1048576 ∧ l.length ≤ 1048576 ∧ (∀ y ∈ l, y.length ≤ 1048576) ∧ tot l ≤ 1048576) := by
  rw [w_szPolPool_eq]
  obtain ⟨r, e1, e2, e3, e4⟩ := w_szIntS_v (k := k) h0 h1 hp
  rw [e1]
  simp only [Option.bind_some]
  by_cases hr : r < 0
  · rw [if_pos (by simpa using hr)]
    exact ⟨-1, rfl, by omega, by omega, fun h => by omega⟩
  · rw [if_neg (by simpa using hr)]
    obtain ⟨q, f1, f2, f3, f4⟩ := w_szPolOldSS_v hk hn hb (x := r) (by omega) (by omega)
    rw [f1]
    simp only [Option.bind_some]
    by_cases hq : q < 0
    · rw [if_pos (by simpa using hq)]
      exact ⟨-1, rfl, by omega, by omega, fun h => by omega⟩
    · rw [if_neg (by simpa using hq)]
      exact ⟨q, rfl, by omega, f3, fun h => ⟨e4 (by omega), f4 h⟩⟩
/-- A world, short enough. -/
structure Short (a : List Nd) (p : List Int) (l : List (List Po)) (hs : List Hh) (lg : List Lr) : Prop where
  a1 : a.length ≤ 1048576
  p1 : p.length ≤ 1048576
  l1 : l.length ≤ 1048576
  l3 : ∀ y ∈ l, y.length ≤ 1048576
  l4 : tot l ≤ 1048576
  h1 : hs.length ≤ 1048576
  g1 : lg.length ≤ 1048576
/-- A world, as memory bears it. -/
structure Long (a : List Nd) (p : List Int) (l : List (List Po)) (hs : List Hh) (lg : List Lr) : Prop where
  a1 : a.length ≤ 9223372036854775807
  p1 : p.length ≤ 9223372036854775807
  l1 : l.length ≤ 9223372036854775807
  l3 : ∀ y ∈ l, y.length ≤ 9223372036854775807
  h1 : hs.length ≤ 9223372036854775807
  h3 : ∀ h ∈ hs, (h.2.2.2.2.2.2.2.2.2.2.2.2.2.2.1).size ≤ 9223372036854775807 ∧ (h.2.2.2.2.2.2.2.2.2.2.2.2.2.2.2.1).size ≤ 9223372036854775807
  g1 : lg.length ≤ 9223372036854775807
theorem w_szWldWorld_v (hk : 2000000 ≤ k) {a : List Nd} (t f z : Int) (e : Int) {p : List Int} {l : List (List Po)} {hs : List Hh} (c : Int) {lg : List Lr} (H : Long a p l hs lg) :
    Sz (w_szWldWorld k a t f z e p l hs c lg 1048576) 1048576 (Short a p l hs lg) := by
  rw [w_szWldWorld_eq, w_szArnArena_v H.a1]
  simp only [Option.bind_some]
  by_cases ha : a.length ≤ 1048576
  · rw [if_pos ha, if_neg (by simp; omega)]
    obtain ⟨r, e1, e2, e3, e4⟩ := w_szPolPool_v hk e H.p1 H.l1 H.l3 (x := 1048576 - (a.length : Int)) (by omega) (by omega)
    rw [e1]
    simp only [Option.bind_some]
    by_cases hr : r < 0
    · rw [if_pos (by simpa using hr)]
      exact ⟨-1, rfl, by omega, by omega, fun h => by omega⟩
    rw [if_neg (by simpa using hr)]
    obtain ⟨q, f1, f2, f3, f4⟩ := w_szHndHandS_v hk H.h1 H.h3 (x := r) (by omega) (by omega)
    rw [f1]
    simp only [Option.bind_some]
    by_cases hq : q < 0
    · rw [if_pos (by simpa using hq)]
      exact ⟨-1, rfl, by omega, by omega, fun h => by omega⟩
    rw [if_neg (by simpa using hq)]
    obtain ⟨u, g1, g2, g3, g4⟩ := w_szLogRecS_v (k := k) (l := lg) (x := q) (by omega) (by omega) H.g1
    rw [g1]
    simp only [Option.bind_some]
    by_cases hu : u < 0
    · rw [if_pos (by simpa using hu)]
      exact ⟨-1, rfl, by omega, by omega, fun h => by omega⟩
    rw [if_neg (by simpa using hu)]
    obtain ⟨p1, p2, p3, p4⟩ := e4 (by omega)
    exact ⟨u, rfl, by omega, g3, fun h => ⟨ha, p1, p2, p3, p4, f4 (by omega), g4 h⟩⟩
  · rw [if_neg ha, if_pos (by simp)]
    exact ⟨-1, rfl, by omega, by omega, fun h => by omega⟩
theorem w_toWldWorld_v (hk : 2000000 ≤ k) {a : List Nd} (t f z : Int) (e : Int) {p : List Int} {l : List (List Po)} {hs : List Hh} (c : Int) {lg : List Lr} (H : Short a p l hs lg) :
    w_toWldWorld k a t f z e p l hs c lg = some (t, f, z, e, c, a, p, l, hs, lg, ()) := by
  rw [w_toWldWorld_eq, w_toArnArena_v hk H.a1, w_toPolPool_eq, w_toIntS_v hk H.p1]
  simp only [Option.bind_some]
  rw [w_toPolOldSS_v hk H.l1 H.l3]
  simp only [Option.bind_some]
  rw [w_toHndHandS_v hk H.h1]
  simp only [Option.bind_some]
  rw [w_toLogRecS_v hk H.g1]
  rfl
theorem w_eqWldWorld_v (hk : 2000000 ≤ k) {a : List Nd} (t f z : Int) (e : Int) {p : List Int} {l : List (List Po)} {hs : List Hh} (c : Int) {lg : List Lr} (H : Short a p l hs lg) :
    w_eqWldWorld k a t f z e p hs c lg a t f z e p hs c lg l l = some (true, l, l, ()) := by
  rw [w_eqWldWorld_eq, w_eqArnArena_v hk H.a1]
  simp only [Option.bind_some]
  rw [if_neg (by simp), w_eqPolPool_eq, if_neg (by simp), w_eqIntS_v hk H.p1]
  simp only [Option.bind_some]
  rw [if_neg (by simp), w_eqPolOldSS_v hk H.l1 H.l3]
  simp only [Option.bind_some]
  rw [if_neg (by simp)]
  simp only [Option.bind_some]
  rw [if_neg (by simp), w_eqHndHandS_v hk H.h1]
  simp only [Option.bind_some]
  rw [if_neg (by simp), if_neg (by simp), w_eqLogRecS_v hk H.g1]
  simp only [Option.bind_some]
  rw [if_neg (by simp)]
end
end Go.Proofs.Ytiooamodldgalaa.Abs
