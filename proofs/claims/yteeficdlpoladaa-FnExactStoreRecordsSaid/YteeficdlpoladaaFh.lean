/- Infinities, not-a-numbers, absolute values: what Go's tests for them say. -/
import Derived.Test.YteeficdlpoladaaFg
namespace Go
namespace FV
open Go.RowKit
variable {k : FloatKind}

def isInf (x : FV k) : Bool := x.datum.isInfinity

theorem trichotomy (x : FV k) : (x.isFin = true ∧ x.isNaN = false ∧ x.isInf = false) ∨ (x.isFin = false ∧ x.isNaN = true ∧ x.isInf = false) ∨ (x.isFin = false ∧ x.isNaN = false ∧ x.isInf = true) := by
  unfold isFin isNaN isInf
  cases x.datum with
  | number => exact .inl ⟨rfl, rfl, rfl⟩
  | infinity => exact .inr (.inr ⟨rfl, rfl, rfl⟩)
  | nan => exact .inr (.inl ⟨rfl, rfl, rfl⟩)

theorem inf_datum {x : FV k} (h : x.isInf = true) : ∃ s, x.datum = .infinity s := by
  unfold isInf at h
  cases hd : x.datum with
  | infinity s => exact ⟨s, rfl⟩
  | number => rw [hd] at h; cases h
  | nan => rw [hd] at h; cases h

theorem cmp_datum (x y : FV k) : cmp x y = x.datum.order y.datum := rfl

theorem cmp_self {x : FV k} (h : x.isNaN = false) : cmp x x = some .eq := by
  rcases trichotomy x with ⟨h1, -, -⟩ | ⟨-, h2, -⟩ | ⟨-, -, h3⟩
  · rw [cmp_fin h1 h1]; unfold rcmp; rw [if_neg (Rat.lt_irrefl), if_pos rfl]
  · rw [h2] at h; cases h
  · obtain ⟨s, hs⟩ := inf_datum h3
    rw [cmp_datum, hs]; cases s <;> rfl

theorem isNaN_eq (x : FV k) : (cmp x x != some .eq) = x.isNaN := by
  cases h : x.isNaN
  · rw [cmp_self h]; rfl
  · rw [cmp_nan_left h]; rfl

theorem zero_fin (k : FloatKind) : (of k 0).isFin = true ∧ (of k 0).val = 0 := by cases k <;> exact ⟨by decide +kernel, by decide +kernel⟩

theorem nan_sub_inf {x : FV k} (h : x.isInf = true) : sub x x = nan k := by
  obtain ⟨s, hs⟩ := inf_datum h
  have hb : floatBits .sub k x.b x.b = none := by
    show ((k.format.read x.b).sum (k.format.read x.b).opposite).map _ = _
    unfold datum at hs
    rw [hs]; cases s <;> rfl
  unfold sub bin; rw [hb]

theorem nan_left {op : BinOp} {x y : FV k} (h : x.isNaN = true) : bin op x y = nan k := by
  unfold bin; rw [floatBits_nan_left h]
theorem nan_right {op : BinOp} {x y : FV k} (h : y.isNaN = true) : bin op x y = nan k := by
  unfold bin; rw [floatBits_nan_right h]

theorem isFin_sub (x : FV k) : eq (sub x x) (of k 0) = x.isFin := by
  rcases trichotomy x with ⟨h1, -, -⟩ | ⟨h1, h2, -⟩ | ⟨h1, -, h3⟩
  · have z := zero_fin k
    have h := (sub_rounds h1 h1).exact z.1 (by rw [z.2]; grind)
    rw [h1, eq_iff h.1 z.1, h.2]
  · rw [h1, show sub x x = nan k from nan_left h2]
    unfold eq; rw [cmp_nan_left (nan_isNaN k)]; rfl
  · rw [h1, nan_sub_inf h3]
    unfold eq; rw [cmp_nan_left (nan_isNaN k)]; rfl

theorem isFin_conv (x : FV .f32) : (conv .f64 x).isFin = x.isFin := by
  rcases trichotomy x with ⟨h1, -, -⟩ | ⟨h1, h2, -⟩ | ⟨h1, h2, h3⟩
  · rw [h1]; exact (widen_exact h1).1
  · rw [h1]; unfold conv; rw [if_pos h2]; decide
  · obtain ⟨s, hs⟩ := inf_datum h3
    rw [h1]; unfold conv; rw [if_neg (by rw [h2]; simp), hs]
    cases s <;> decide

theorem isNaN_conv (k' : FloatKind) (x : FV k) : (conv k' x).isNaN = x.isNaN := by
  unfold conv
  cases h : x.isNaN
  · simp only [Bool.false_eq_true, if_false]
    rw [isNaN_of]
    exact write_number_not_nan _ h
  · simp only [if_true]; exact nan_isNaN k'

theorem isInf_conv (x : FV .f32) : (conv .f64 x).isInf = x.isInf := by
  have h1 := isFin_conv x
  have h2 := isNaN_conv .f64 x
  rcases trichotomy x with ⟨a, b, c⟩ | ⟨a, b, c⟩ | ⟨a, b, c⟩ <;> rcases trichotomy (conv .f64 x) with ⟨d, e, f⟩ | ⟨d, e, f⟩ | ⟨d, e, f⟩ <;> simp_all

/-! ### The absolute value -/
def abs (x : FV k) : FV k := if x.isNaN = true then nan k else of k (x.b % k.format.signWeight)

def dabs : Ieee.Datum → Ieee.Datum
  | .number _ m e => .number false m e
  | .infinity _ => .infinity false
  | .nan _ f => .nan false f

theorem read_abs (k : FloatKind) (b : Nat) : k.format.read (b % k.format.signWeight) = dabs (k.format.read b) := by
  have hs : 0 < k.format.signWeight := Nat.two_pow_pos _
  have h1 : b % k.format.signWeight / k.format.signWeight = 0 := Nat.div_eq_of_lt (Nat.mod_lt _ hs)
  unfold Ieee.Format.read
  simp only [h1, Nat.mod_mod]
  split
  · rfl
  · split
    · rfl
    · split <;> rfl

theorem dabs_nan (d : Ieee.Datum) : (dabs d).isNaN = d.isNaN := by cases d <;> rfl

theorem abs_datum {x : FV k} (h : x.isNaN = false) : (abs x).datum = dabs x.datum := by
  unfold abs
  have hn : (k.format.read (x.b % k.format.signWeight)).isNaN = false := by rw [read_abs, dabs_nan]; exact h
  rw [if_neg (by rw [h]; simp), datum_of hn, read_abs]
  rfl

theorem abs_fl (x : FV k) (j : Nat) : ∃ j', (fl x j) % k.format.signWeight = fl (abs x) j' := by
  have hw := width_eq k
  have hs : 0 < k.format.signWeight := Nat.two_pow_pos _
  have hm := Nat.mod_lt (fl x j) hs
  refine ⟨fl x j % k.format.signWeight, ?_⟩
  cases h : x.isNaN
  · have hm' := Nat.mod_lt x.b hs
    have hn : (k.format.read (x.b % k.format.signWeight)).isNaN = false := by rw [read_abs, dabs_nan]; exact h
    rw [fl_num h, abs, if_neg (by rw [h]; simp), fl_num (by rw [isNaN_of]; exact hn), of_num hn, Nat.mod_eq_of_lt (show x.b % k.format.signWeight < 2 ^ k.format.width by omega)]
  · rw [abs, if_pos h, nan_word (by omega) (by rw [read_abs, dabs_nan]; exact (fl_nan h j).2)]

theorem abs_fin (x : FV k) : (abs x).isFin = x.isFin := by
  cases h : x.isNaN
  · unfold isFin; rw [abs_datum h]; cases x.datum <;> rfl
  · rw [show abs x = nan k by unfold abs; rw [if_pos h], ← eq_nan h]

theorem abs_val {x : FV k} (h : x.isFin = true) : 0 ≤ (abs x).val ∧ ((abs x).val = x.val ∨ (abs x).val = - x.val) := by
  obtain ⟨s, m, e, hd⟩ := fin_number h
  unfold val
  rw [abs_datum (fin_not_nan h), hd]
  simp only [dabs, dval]
  have h0 : (0 : Rat) ≤ (m : Rat) * p2 e := Rat.mul_nonneg Rat.natCast_nonneg (Rat.le_of_lt (p2_pos e))
  rcases sg_cases s with hs | hs <;> rw [hs] <;> simp only [sg, Bool.false_eq_true, if_false]
  · refine ⟨by grind, ?_⟩
    first | trivial | (left; grind)
  · exact ⟨by grind, .inr (by grind)⟩

theorem andNot_top (b : Nat) (h : b < 18446744073709551616) : bits .andNot .u64 (b : Int) 9223372036854775808 = ((b % 9223372036854775808 : Nat) : Int) := by
  have := u64_andNot_nat b 9223372036854775808 h (by decide)
  rw [show ((9223372036854775808 : Nat) : Int) = 9223372036854775808 from rfl] at this
  rw [this]
  congr 1
  exact Nat.and_two_pow_sub_one_eq_mod b 63

theorem abs_top (x : FV .f64) (i : Nat) : ∃ j, (bits .andNot .u64 ((fl x i : Nat) : Int) 9223372036854775808).toNat = fl (abs x) j := by
  obtain ⟨j, hj⟩ := abs_fl x i
  refine ⟨j, ?_⟩
  rw [andNot_top _ (fl_lt x i), ← hj]
  exact Int.toNat_natCast _

/-- The greatest float64. -/
theorem max64 : (of .f64 9218868437227405311).isFin = true ∧ of .f64 9218868437227405311 = ofRung .f64 false 9218868437227405311 := ⟨by decide +kernel, by decide +kernel⟩

theorem fin_le_max {x : FV .f64} (h : x.isFin = true) : x.val ≤ (of .f64 9218868437227405311).val := by
  obtain ⟨s, r, hr, rfl, hv⟩ := fin_rung h
  rw [hv, max64.2, ofRung_val .f64 false (by decide)]
  rw [f64_inf] at hr
  have h1 := rv_mono FloatKind.f64.format (show r ≤ 9218868437227405311 by omega)
  have h2 := rv_nonneg FloatKind.f64.format r
  cases s <;> simp only [sg, Bool.false_eq_true, if_false, if_true] <;> grind

theorem gt_max {x : FV .f64} : gt x (of .f64 9218868437227405311) = (x.datum == .infinity false) := by
  rcases trichotomy x with ⟨h1, -, -⟩ | ⟨-, h2, -⟩ | ⟨-, -, h3⟩
  · obtain ⟨s, m, e, hd⟩ := fin_number h1
    have h := gt_iff h1 max64.1
    have := fin_le_max h1
    rw [Bool.eq_iff_iff, h, hd]
    constructor
    · intro; grind
    · intro h; simp at h
  · unfold gt; rw [cmp_nan_left h2]
    unfold isNaN at h2
    cases hd : x.datum <;> rw [hd] at h2 <;> first | rfl | cases h2
  · obtain ⟨s, hs⟩ := inf_datum h3
    obtain ⟨t, m, e, hd⟩ := fin_number max64.1
    unfold gt; rw [cmp_datum, hs, hd]
    cases s <;> rfl

theorem isInf_abs (x : FV .f64) : gt (abs x) (of .f64 9218868437227405311) = x.isInf := by
  rw [gt_max]
  cases h : x.isNaN
  · rw [abs_datum h]
    unfold isInf
    cases x.datum with
    | number => rfl
    | infinity => rfl
    | nan => rfl
  · rw [show abs x = x by unfold abs; rw [if_pos h, ← eq_nan h]]
    unfold isNaN at h; unfold isInf
    cases hd : x.datum <;> rw [hd] at h <;> first | cases h; done | rfl

end FV
end Go
