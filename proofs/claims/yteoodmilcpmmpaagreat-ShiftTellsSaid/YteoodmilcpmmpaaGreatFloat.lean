/-
  Plain: the difference of two whole numbers below 2^32, told as floats of 64 bits, has the sign of the difference. No program in sight.
-/
import Derived.Laws.FloatArith
import Derived.Laws.ComplexArith
import Derived.Below
namespace Go.Proofs.YteoodmilcpmmpaaGreat

open Ieee

theorem dbl_lp : double.leastPlace = -1074 := by decide

theorem dbl_sw : double.signWeight = 2 ^ 63 := by decide

theorem dbl_inf : double.infRung = 2047 * 2 ^ 52 := by decide

theorem dbl_bin : double.binade = 2 ^ 52 := by decide

/-- What a word of a sign and a small rung reads as. -/
theorem read_word (neg : Bool) (r : Nat) (h : r < 2047 * 2 ^ 52) :
    double.read (double.word neg r) = if r < 2 ^ 52 then .number neg r (-1074) else .number neg (2 ^ 52 + r % 2 ^ 52) (-1074 + (r / 2 ^ 52 - 1 : Nat)) := by
  have e : double.word neg r = (if neg then 2 ^ 63 + r else r) := by unfold Format.word; rw [dbl_sw]
  have h1 : (double.word neg r / 2 ^ 63 % 2 == 1) = neg := by
    rw [e]; cases neg
    · simp; omega
    · simp; omega
  have h2 : double.word neg r % 2 ^ 63 = r := by
    rw [e]; cases neg
    · simp; omega
    · simp; omega
  unfold Format.read
  rw [dbl_sw, dbl_bin, dbl_inf, dbl_lp]
  simp only [h1, h2]
  by_cases hr : r < 2 ^ 52
  · rw [if_pos hr, if_pos hr]
  · rw [if_neg hr, if_neg hr, if_pos h]

/-- A whole number below 2^53 is told exactly: what it reads as has this value, counted in units of 2^place. -/
theorem nearest_exact (neg : Bool) (m : Nat) (h0 : 0 < m) (h : m < 2 ^ 53) :
    double.read (double.nearest neg m 0) = .number neg (m * 2 ^ (52 - m.log2)) ((m.log2 : Int) - 52) := by
  have hl : m.log2 < 53 := (Nat.log2_lt (by omega)).2 h
  have hlo : 2 ^ m.log2 ≤ m := Nat.log2_self_le (by omega)
  have hhi : m < 2 ^ (m.log2 + 1) := Nat.lt_log2_self
  have hlast : max ((0 : Int) + m.log2 - (52 : Nat)) (-1074) = (m.log2 : Int) - 52 := by omega
  have hk1 : 2 ^ 52 ≤ m * 2 ^ (52 - m.log2) := by
    calc 2 ^ 52 = 2 ^ m.log2 * 2 ^ (52 - m.log2) := by rw [← Nat.pow_add]; congr 1; omega
      _ ≤ _ := Nat.mul_le_mul_right _ hlo
  have hk2 : m * 2 ^ (52 - m.log2) < 2 ^ 53 := by
    calc m * 2 ^ (52 - m.log2) < 2 ^ (m.log2 + 1) * 2 ^ (52 - m.log2) := Nat.mul_lt_mul_of_pos_right hhi (Nat.two_pow_pos _)
      _ = 2 ^ 53 := by rw [← Nat.pow_add]; congr 1; omega
  have hcut : Toward.even.cut neg (m <<< ((0 : Int) - ((m.log2 : Int) - 52)).toNat) (((m.log2 : Int) - 52) - 0).toNat = m * 2 ^ (52 - m.log2) := by
    have e1 : ((0 : Int) - ((m.log2 : Int) - 52)).toNat = 52 - m.log2 := by omega
    have e2 : (((m.log2 : Int) - 52) - 0).toNat = 0 := by omega
    rw [e1, e2, Nat.shiftLeft_eq]
    unfold Toward.cut
    simp [Nat.mod_one]
  unfold Format.nearest
  rw [if_neg (by omega), dbl_lp, dbl_bin, dbl_inf, show double.fractionBits = 52 from rfl, hlast]
  dsimp only
  rw [hcut]
  have e3 : (((m.log2 : Int) - 52) - -1074).toNat = m.log2 + 1022 := by omega
  rw [e3]
  generalize m * 2 ^ (52 - m.log2) = K at *
  have hmin : min ((m.log2 + 1022) * 2 ^ 52 + K) (2047 * 2 ^ 52) = (m.log2 + 1022) * 2 ^ 52 + K := by omega
  rw [hmin, read_word _ _ (by omega), if_neg (by omega)]
  have e4 : 2 ^ 52 + ((m.log2 + 1022) * 2 ^ 52 + K) % 2 ^ 52 = K := by omega
  have e5 : ((m.log2 + 1022) * 2 ^ 52 + K) / 2 ^ 52 - 1 = m.log2 + 1022 := by omega
  have e6 : (-1074 : Int) + ((m.log2 + 1022 : Nat) : Int) = (m.log2 : Int) - 52 := by omega
  rw [e4, e5, e6]

theorem signed_pos {V : Nat} (neg : Bool) (k : Nat) (h : 0 < V) : compare (signed neg V k) 0 = if neg then Ordering.lt else Ordering.gt := by
  have hp : 0 < V <<< k := by rw [Nat.shiftLeft_eq]; exact Nat.mul_pos h (Nat.two_pow_pos _)
  unfold signed
  generalize V <<< k = U at *
  cases neg
  · simp only [Bool.false_eq_true, if_false]
    rw [Int.compare_eq_gt]
    omega
  · simp only [if_true]
    rw [Int.compare_eq_lt]
    omega

theorem read_zero (s : Bool) : double.read (double.word s 0) = .number s 0 (-1074) := by
  rw [read_word s 0 (by omega), if_pos (by omega)]

/-- Whatever is written, but nought, keeps its sign. -/
theorem nearest_sign (neg : Bool) (mag : Nat) (place : Int) (h0 : 0 < mag) (hp : -1074 ≤ place) :
    double.order (double.nearest neg mag place) 0 = some (if neg then .lt else .gt) := by
  have hz : double.read 0 = .number false 0 (-1074) := read_zero false
  unfold Format.nearest
  rw [if_neg (by omega), dbl_lp, dbl_bin, dbl_inf, show double.fractionBits = 52 from rfl]
  dsimp only
  have hr0 : 0 < (max (place + mag.log2 - (52 : Nat)) (-1074) - -1074).toNat * 2 ^ 52 +
      Toward.even.cut neg (mag <<< (place - max (place + mag.log2 - (52 : Nat)) (-1074)).toNat) (max (place + mag.log2 - (52 : Nat)) (-1074) - place).toNat := by
    by_cases hl : place + mag.log2 - (52 : Nat) ≤ -1074
    · have e1 : max (place + mag.log2 - (52 : Nat)) (-1074) = -1074 := by omega
      rw [e1]
      have e2 : ((-1074 : Int) - place).toNat = 0 := by omega
      rw [e2]
      have hm : 0 < mag <<< (place - -1074).toNat := by rw [Nat.shiftLeft_eq]; exact Nat.mul_pos h0 (Nat.two_pow_pos _)
      generalize mag <<< (place - -1074).toNat = V at *
      have : Toward.even.cut neg V 0 = V := by unfold Toward.cut; simp [Nat.mod_one]
      rw [this]
      omega
    · generalize Toward.even.cut neg _ _ = K
      omega
  generalize Toward.even.cut neg _ _ = K at *
  generalize (max (place + mag.log2 - (52 : Nat)) (-1074) - -1074).toNat * 2 ^ 52 + K = r0 at *
  have hr1 : 0 < min r0 (2047 * 2 ^ 52) := by omega
  have hr2 : min r0 (2047 * 2 ^ 52) ≤ 2047 * 2 ^ 52 := by omega
  generalize min r0 (2047 * 2 ^ 52) = r at *
  unfold Format.order
  rw [hz]
  have key : ∀ (M : Nat) (p : Int), 0 < M → -1074 ≤ p → Datum.order (.number neg M p) (.number false 0 (-1074)) = some (if neg then .lt else .gt) := by
    intro M p hM hpl
    unfold Datum.order
    dsimp only
    have hb : min p (-1074) = -1074 := by omega
    rw [hb]
    have hs0 : signed false 0 ((-1074 : Int) - -1074).toNat = 0 := by simp [signed]
    rw [hs0, signed_pos neg _ hM]
  by_cases hr : r < 2047 * 2 ^ 52
  · rw [read_word _ _ hr]
    by_cases hsm : r < 2 ^ 52
    · rw [if_pos hsm]
      exact key _ _ hr1 (by omega)
    · rw [if_neg hsm]
      exact key _ _ (by omega) (by omega)
  · have hre : r = 2047 * 2 ^ 52 := by omega
    subst hre
    have hinf : double.read (double.word neg (2047 * 2 ^ 52)) = .infinity neg := by
      cases neg <;> decide
    rw [hinf]
    cases neg <;> rfl

theorem order_zero (s : Bool) : double.order (double.word s 0) 0 = some .eq := by
  have hz : double.read 0 = .number false 0 (-1074) := read_zero false
  unfold Format.order
  rw [hz, read_zero]
  cases s <;> rfl

/-- Of whole numbers below 2^32: what the float reads as, with its place, and that its value is the number. -/
theorem read_of_int (a : Int) (h0 : 0 ≤ a) (h1 : a < 4294967296) :
    ∃ (m : Nat) (p : Int), double.read (floatOfInt .f64 a) = .number false m p ∧ -1074 ≤ p ∧ p ≤ 0 ∧ (m : Int) * 2 ^ (p + 1074).toNat = a * 2 ^ 1074 ∧ (p = -1074 ∧ a = 0 ∨ -52 ≤ p) := by
  have hd : FloatKind.f64.format = double := rfl
  have hn : ¬ a < 0 := by omega
  show ∃ (m : Nat) (p : Int), double.read (double.nearest (decide (a < 0)) a.natAbs 0) = _ ∧ _
  simp only [hn, decide_false]
  by_cases hz : a = 0
  · subst hz
    refine ⟨0, -1074, ?_, by omega, by omega, by omega, by omega⟩
    show double.read (double.nearest false 0 0) = _
    unfold Format.nearest
    rw [if_pos rfl]
    exact read_zero false
  · obtain ⟨n, rfl⟩ := Int.eq_ofNat_of_zero_le h0
    have hn0 : 0 < n := by omega
    have hl : n.log2 < 32 := (Nat.log2_lt (by omega)).2 (by omega)
    refine ⟨_, _, nearest_exact false n hn0 (by omega), by omega, by omega, ?_, by omega⟩
    have e : ((n.log2 : Int) - 52 + 1074).toNat = n.log2 + 1022 := by omega
    have e2 : (52 - n.log2) + (n.log2 + 1022) = 1074 := by omega
    have e3 : (2 : Int) ^ 1074 = 2 ^ (52 - n.log2) * 2 ^ (n.log2 + 1022) := by rw [← Int.pow_add, e2]
    rw [e, e3, ← Int.mul_assoc]
    push_cast
    rfl

/-- THE LAW: at(b) - at(a) on one of the parts. -/
theorem sub_of_int (a b : Int) (ha : 0 ≤ a) (ha' : a < 4294967296) (hb : 0 ≤ b) (hb' : b < 4294967296) :
    ∃ d, floatBits .sub .f64 (floatOfInt .f64 b) (floatOfInt .f64 a) = some d ∧
      (FloatKind.f64.format.order d 0 == some .gt) = decide (a < b) ∧ (FloatKind.f64.format.order d 0 == some .eq) = decide (a = b) := by
  have hd : FloatKind.f64.format = double := rfl
  obtain ⟨m, p, hm, hp0, hp1, hmv, hpa⟩ := read_of_int a ha ha'
  obtain ⟨n, q, hn, hq0, hq1, hnv, hqb⟩ := read_of_int b hb hb'
  unfold floatBits
  dsimp only
  unfold Format.sub
  rw [hd, hn, hm]
  unfold Datum.opposite Datum.sum
  dsimp only
  simp only [Option.map_some, Option.some.injEq, exists_eq_left']
  have hT : (0 : Int) < 2 ^ 1074 := Int.pow_pos (by omega)
  generalize (2 : Int) ^ 1074 = T at *
  have hbase : -1074 ≤ min q p := by omega
  have hx : (2 : Int) ^ (q + 1074).toNat = 2 ^ (q - min q p).toNat * 2 ^ (min q p + 1074).toNat := by rw [← Int.pow_add]; congr 1; omega
  have hy : (2 : Int) ^ (p + 1074).toNat = 2 ^ (p - min q p).toNat * 2 ^ (min q p + 1074).toNat := by rw [← Int.pow_add]; congr 1; omega
  rw [hx, ← Int.mul_assoc] at hnv
  rw [hy, ← Int.mul_assoc] at hmv
  have hU : (0 : Int) < 2 ^ (min q p + 1074).toNat := Int.pow_pos (by omega)
  generalize (2 : Int) ^ (min q p + 1074).toNat = U at *
  have hs1 : signed false n (q - min q p).toNat = n * 2 ^ (q - min q p).toNat := by simp [signed, Nat.shiftLeft_eq]
  have hs2 : signed (!false) m (p - min q p).toNat = -(m * 2 ^ (p - min q p).toNat) := by simp [signed, Nat.shiftLeft_eq]
  rw [hs1, hs2]
  generalize (n : Int) * 2 ^ (q - min q p).toNat = X at *
  generalize (m : Int) * 2 ^ (p - min q p).toNat = Y at *
  have hXY : (X + -Y) * U = (b - a) * T := by rw [Int.add_mul, Int.sub_mul, ← hnv, ← hmv, Int.neg_mul]; rfl
  generalize X + -Y = Z at *
  have hZ0 : Z = 0 ↔ a = b := by
    constructor
    · intro h; subst h
      have : (b - a) * T = 0 := by rw [← hXY]; simp
      rcases Int.mul_eq_zero.1 this with h | h <;> omega
    · intro h; subst h
      have : Z * U = 0 := by rw [hXY]; simp
      rcases Int.mul_eq_zero.1 this with h | h <;> omega
  have hZ1 : 0 < Z ↔ a < b := by
    constructor
    · intro h
      have h1 : 0 < (b - a) * T := by rw [← hXY]; exact Int.mul_pos h hU
      rcases Int.lt_or_le 0 (b - a) with h2 | h2
      · omega
      · have := Int.mul_le_mul_of_nonneg_right h2 (Int.le_of_lt hT)
        omega
    · intro h
      have h1 : 0 < Z * U := by rw [hXY]; exact Int.mul_pos (by omega) hT
      rcases Int.lt_or_le 0 Z with h2 | h2
      · exact h2
      · have := Int.mul_le_mul_of_nonneg_right h2 (Int.le_of_lt hU)
        omega
  show (double.order (double.nearest _ _ _) 0 == some Ordering.gt) = _ ∧ (double.order (double.nearest _ _ _) 0 == some Ordering.eq) = _
  by_cases hz : Z = 0
  · have hab := hZ0.1 hz
    rw [if_pos hz]
    have e : double.nearest (false && !false) Z.natAbs (min q p) = double.word false 0 := by
      unfold Format.nearest; rw [if_pos (by rw [hz]; rfl)]; rfl
    rw [e, order_zero]
    subst hab
    simp
  · have hne : ¬ a = b := fun h => hz (hZ0.2 h)
    rw [if_neg hz, nearest_sign _ _ _ (by omega) (by omega)]
    by_cases hlt : Z < 0
    · have : ¬ a < b := fun h => by have := hZ1.2 h; omega
      simp [hlt, hne, this]
    · have : a < b := hZ1.1 (by omega)
      simp [hlt, hne, this]

end Go.Proofs.YteoodmilcpmmpaaGreat
