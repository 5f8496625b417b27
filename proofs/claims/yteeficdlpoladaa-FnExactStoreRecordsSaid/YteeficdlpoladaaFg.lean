/- Bounds of floats; the logarithm: its argument brought between 3/4 and 3/2, and that it is no great number. -/
import Derived.Test.YteeficdlpoladaaFf
namespace Go
namespace FV
variable {k : FloatKind}

/-! ### Bounds -/
structure Bd (x : FV k) (n : Nat) : Prop where
  fin : x.isFin = true
  up : x.val ≤ (n : Rat)
  lo : -(n : Rat) ≤ x.val

theorem Rounds.bd {x : FV k} {q : Rat} {n : Nat} (h : Rounds x q) (hn : n ≤ 2 * k.format.binade) (h1 : q ≤ (n : Rat)) (h2 : -(n : Rat) ≤ q) : Bd x n := by
  obtain ⟨y, hy, hv⟩ := int_float k (n := (n : Int)) (by simpa using hn)
  obtain ⟨z, hz, hw⟩ := int_float k (n := -(n : Int)) (by simpa using hn)
  rw [Rat.intCast_natCast] at hv
  rw [Rat.intCast_neg, Rat.intCast_natCast] at hw
  obtain ⟨a, b, c⟩ := h.between hz hy (by rw [hw]; exact h2) (by rw [hv]; exact h1)
  exact ⟨a, by rw [hv] at c; exact c, by rw [hw] at b; exact b⟩

theorem Bd.mono {x : FV k} {m n : Nat} (h : Bd x m) (hmn : m ≤ n) : Bd x n := by
  have := nat_le.2 hmn
  exact ⟨h.fin, by have := h.up; grind, by have := h.lo; grind⟩

theorem Bd.add {x y : FV k} {m n : Nat} (hx : Bd x m) (hy : Bd y n) (h : m + n ≤ 2 * k.format.binade) : Bd (FV.add x y) (m + n) := by
  have e : ((m + n : Nat) : Rat) = (m : Rat) + (n : Rat) := Rat.natCast_add _ _
  have h1 := hx.up; have h2 := hx.lo; have h3 := hy.up; have h4 := hy.lo
  exact (add_rounds hx.fin hy.fin).bd h (by rw [e]; grind) (by rw [e]; grind)

theorem Bd.sub {x y : FV k} {m n : Nat} (hx : Bd x m) (hy : Bd y n) (h : m + n ≤ 2 * k.format.binade) : Bd (FV.sub x y) (m + n) := by
  have e : ((m + n : Nat) : Rat) = (m : Rat) + (n : Rat) := Rat.natCast_add _ _
  have h1 := hx.up; have h2 := hx.lo; have h3 := hy.up; have h4 := hy.lo
  exact (sub_rounds hx.fin hy.fin).bd h (by rw [e]; grind) (by rw [e]; grind)

theorem prod_le {a b m n : Rat} (h1 : a ≤ m) (h2 : -m ≤ a) (h3 : b ≤ n) (h4 : -n ≤ b) : a * b ≤ m * n ∧ -(m * n) ≤ a * b := by
  have p1 := Rat.mul_nonneg (show 0 ≤ m - a by grind) (show 0 ≤ n + b by grind)
  have p2 := Rat.mul_nonneg (show 0 ≤ m + a by grind) (show 0 ≤ n - b by grind)
  have p3 := Rat.mul_nonneg (show 0 ≤ m - a by grind) (show 0 ≤ n - b by grind)
  have p4 := Rat.mul_nonneg (show 0 ≤ m + a by grind) (show 0 ≤ n + b by grind)
  constructor <;> grind

theorem Bd.mul {x y : FV k} {m n : Nat} (hx : Bd x m) (hy : Bd y n) (h : m * n ≤ 2 * k.format.binade) : Bd (FV.mul x y) (m * n) := by
  have e : ((m * n : Nat) : Rat) = (m : Rat) * (n : Rat) := Rat.natCast_mul _ _
  obtain ⟨h1, h2⟩ := prod_le hx.up hx.lo hy.up hy.lo
  exact (mul_rounds hx.fin hy.fin).bd h (by rw [e]; exact h1) (by rw [e]; exact h2)

theorem quot_le {a b m : Rat} (h1 : a ≤ m) (h2 : -m ≤ a) (hb : 1 ≤ b) : a / b ≤ m ∧ -m ≤ a / b := by
  have hb0 : 0 < b := by grind
  have hm : 0 ≤ m := by grind
  have := Rat.mul_nonneg hm (show 0 ≤ b - 1 by grind)
  constructor
  · apply Rat.le_of_mul_le_mul_right (c := b) _ hb0
    rw [Rat.div_mul_cancel (by grind)]; grind
  · apply Rat.le_of_mul_le_mul_right (c := b) _ hb0
    rw [Rat.div_mul_cancel (by grind)]; grind

theorem Bd.div {x y : FV k} {m : Nat} (hx : Bd x m) (hy : y.isFin = true) (h1 : 1 ≤ y.val) (h : m ≤ 2 * k.format.binade) : Bd (FV.div x y) m := by
  obtain ⟨h2, h3⟩ := quot_le hx.up hx.lo h1
  exact (div_rounds hx.fin hy (by grind)).bd h h2 h3

theorem Bd.conv {x : FV k} {k' : FloatKind} {m : Nat} (hx : Bd x m) (h : m ≤ 2 * k'.format.binade) : Bd (FV.conv k' x) m :=
  (conv_rounds k' hx.fin).bd h hx.up hx.lo

theorem Bd.fits {x : FV k} {k' : FloatKind} {m : Nat} (hx : Bd x m) (h : m ≤ 2 * k'.format.binade) : FV.fits k' x = true := fits_of fun _ => (hx.conv h).fin

theorem Bd.ofInt {n : Int} {m : Nat} (h1 : n ≤ m) (h2 : -(m : Int) ≤ n) (h : m ≤ 2 * k.format.binade) : Bd (FV.ofInt k n) m := by
  obtain ⟨a, b⟩ := ofInt_exact k (n := n) (by omega)
  refine ⟨a, ?_, ?_⟩
  · rw [b, ← Rat.intCast_natCast, Rat.intCast_le_intCast]; exact h1
  · rw [b, ← Rat.intCast_natCast, ← Rat.intCast_neg, Rat.intCast_le_intCast]; exact h2

/-! ### Positive words of a float64 -/
def wd (b : Nat) : FV .f64 := of .f64 b

theorem wd_rung {b : Nat} (h : b ≤ FloatKind.f64.format.infRung) : wd b = ofRung .f64 false b := by
  unfold wd ofRung
  rw [Nat.min_eq_left h]
  rfl

theorem wd_fin {b : Nat} (h : b < FloatKind.f64.format.infRung) : (wd b).isFin = true ∧ (wd b).val = rv FloatKind.f64.format b := by
  rw [wd_rung (by omega)]
  refine ⟨by rw [ofRung_fin]; exact decide_eq_true h, ?_⟩
  rw [ofRung_val _ _ h]
  simp [sg]

theorem wd_lt {a b : Nat} (ha : a < FloatKind.f64.format.infRung) (hb : b < FloatKind.f64.format.infRung) : lt (wd a) (wd b) = decide (a < b) := by
  have h := lt_iff (wd_fin ha).1 (wd_fin hb).1
  rw [(wd_fin ha).2, (wd_fin hb).2, rv_lt_iff] at h
  rw [Bool.eq_iff_iff, h, decide_eq_true_iff]

theorem wd_ge {a b : Nat} (ha : a < FloatKind.f64.format.infRung) (hb : b < FloatKind.f64.format.infRung) : ge (wd a) (wd b) = decide (b ≤ a) := by
  have h := ge_iff (wd_fin ha).1 (wd_fin hb).1
  rw [(wd_fin ha).2, (wd_fin hb).2, rv_le_iff] at h
  rw [Bool.eq_iff_iff, h, decide_eq_true_iff]

theorem f64_binade : FloatKind.f64.format.binade = 4503599627370496 := rfl
theorem f64_inf : FloatKind.f64.format.infRung = 9218868437227405312 := rfl

theorem two_val : (of .f64 4611686018427387904).isFin = true ∧ (of .f64 4611686018427387904).val = 2 := ⟨by decide +kernel, by decide +kernel⟩

/-- A normal number doubled goes up by one binade. -/
theorem rv_double {b : Nat} (h : FloatKind.f64.format.binade ≤ b) : rv FloatKind.f64.format (b + FloatKind.f64.format.binade) = 2 * rv FloatKind.f64.format b := by
  obtain ⟨d, K, rfl, h1, h2⟩ := rung_form FloatKind.f64.format b
  have hK : FloatKind.f64.format.binade ≤ K := by
    rcases h1 with h1 | h1
    · exact h1
    · subst h1; omega
  rw [show d * FloatKind.f64.format.binade + K + FloatKind.f64.format.binade = (d + 1) * FloatKind.f64.format.binade + K by rw [Nat.add_mul]; omega,
    rv_at _ (d + 1) K (.inl hK) (by omega), rv_at _ d K (.inl hK) (by omega), show (FloatKind.f64.format.leastPlace + ((d + 1 : Nat) : Int)) = FloatKind.f64.format.leastPlace + (d : Int) + 1 by omega, p2_succ]
  grind

theorem rv_pos (f : Ieee.Format) {r : Nat} (h : 0 < r) : 0 < rv f r := by rw [← rv_zero f]; exact rv_lt f h

theorem wd_double {b : Nat} (h : FloatKind.f64.format.binade ≤ b) (h2 : b + FloatKind.f64.format.binade < FloatKind.f64.format.infRung) : mul (wd b) (of .f64 4611686018427387904) = wd (b + FloatKind.f64.format.binade) := by
  have hb := wd_fin (show b < FloatKind.f64.format.infRung by omega)
  have hc := wd_fin h2
  have h3 := (mul_rounds hb.1 two_val.1).exact hc.1 (by rw [hb.2, hc.2, two_val.2, rv_double h]; grind)
  refine eq_of_val h3.1 hc.1 h3.2 ?_
  rw [h3.2, hc.2]
  have := rv_pos FloatKind.f64.format (show 0 < b + FloatKind.f64.format.binade by have := binade_pos FloatKind.f64.format; omega)
  grind

theorem wd_half {b : Nat} (h : FloatKind.f64.format.binade ≤ b) (h2 : b + FloatKind.f64.format.binade < FloatKind.f64.format.infRung) : div (wd (b + FloatKind.f64.format.binade)) (of .f64 4611686018427387904) = wd b := by
  have hb := wd_fin (show b < FloatKind.f64.format.infRung by omega)
  have hc := wd_fin h2
  have h3 := (div_rounds hc.1 two_val.1 (by rw [two_val.2]; decide)).exact hb.1 (by rw [hb.2, hc.2, two_val.2, rv_double h]; grind)
  refine eq_of_val h3.1 hb.1 h3.2 ?_
  rw [h3.2, hb.2]
  have := rv_pos FloatKind.f64.format (show 0 < b by have := binade_pos FloatKind.f64.format; omega)
  grind

/-! ### The logarithm -/
/-- 25, 23, .. 1. -/
def logQ (u : FV .f64) : Nat → FV .f64
  | 0 => of .f64 0
  | n + 1 => add (div (of .f64 4607182418800017408) (ofInt .f64 (25 - 2 * (n : Int)))) (mul u (logQ u n))

def logTail (x e : FV .f64) : FV .f64 :=
  let s := div (sub x (of .f64 4607182418800017408)) (add x (of .f64 4607182418800017408))
  add (mul (of .f64 4611686018427387904) (mul s (logQ (mul s s) 13))) (mul e (of .f64 4604418534313441775))

/-- The argument's word, brought between those of 3/4 and of 3/2, and how often it was halved less how often doubled. -/
def logUp (b : Nat) : Nat := if 4609434218613702656 ≤ b then (b - 4609434218613702656) / 4503599627370496 + 1 else 0
def logDown (b : Nat) : Nat := if b < 4604930618986332160 then (4604930618986332160 - b + 4503599627370495) / 4503599627370496 else 0

def logV (x : FV .f64) : FV .f64 :=
  logTail (wd (x.b + logDown x.b * 4503599627370496 - logUp x.b * 4503599627370496)) (ofInt .f64 ((logUp x.b : Int) - (logDown x.b : Int)))

theorem one_val : (of .f64 4607182418800017408).isFin = true ∧ (of .f64 4607182418800017408).val = 1 := ⟨by decide +kernel, by decide +kernel⟩
theorem zero64_val : (of .f64 0).isFin = true ∧ (of .f64 0).val = 0 := ⟨by decide +kernel, by decide +kernel⟩
theorem bd_one : Bd (of .f64 4607182418800017408) 1 := ⟨one_val.1, by rw [one_val.2]; decide, by rw [one_val.2]; decide⟩
theorem bd_two : Bd (of .f64 4611686018427387904) 2 := ⟨two_val.1, by rw [two_val.2]; decide, by rw [two_val.2]; decide⟩
theorem bd_ln2 : Bd (of .f64 4604418534313441775) 1 := ⟨by decide +kernel, by decide +kernel, by decide +kernel⟩

theorem logQ_bd {u : FV .f64} (hu : Bd u 1) : ∀ n, n ≤ 13 → Bd (logQ u n) n
  | 0, _ => ⟨zero64_val.1, by rw [show logQ u 0 = of .f64 0 from rfl, zero64_val.2]; decide, by rw [show logQ u 0 = of .f64 0 from rfl, zero64_val.2]; decide⟩
  | n + 1, h => by
    have ih := logQ_bd hu n (by omega)
    have hi := ofInt_exact .f64 (n := 25 - 2 * (n : Int)) (by rw [f64_binade]; omega)
    have h1 : Bd (div (of .f64 4607182418800017408) (ofInt .f64 (25 - 2 * (n : Int)))) 1 := by
      refine bd_one.div hi.1 ?_ (by rw [f64_binade]; omega)
      rw [hi.2]
      have : ((1 : Int) : Rat) ≤ ((25 - 2 * (n : Int) : Int) : Rat) := Rat.intCast_le_intCast.2 (by omega)
      exact this
    have h2 := h1.add (hu.mul ih (by rw [f64_binade]; omega)) (by rw [f64_binade]; omega)
    rw [Nat.one_mul, Nat.add_comm] at h2
    exact h2

theorem between_34_32 {b : Nat} (h1 : 4604930618986332160 ≤ b) (h2 : b < 4609434218613702656) : (wd b).isFin = true ∧ (3 : Rat) / 4 ≤ (wd b).val ∧ (wd b).val ≤ 3 / 2 := by
  have hb := wd_fin (show b < FloatKind.f64.format.infRung by rw [f64_inf]; omega)
  refine ⟨hb.1, ?_, ?_⟩
  · have e : (wd 4604930618986332160).val = 3 / 4 := by decide +kernel
    rw [hb.2, ← e, (wd_fin (by decide)).2]
    exact rv_mono _ h1
  · have e : (wd 4609434218613702656).val = 3 / 2 := by decide +kernel
    rw [hb.2, ← e, (wd_fin (by decide)).2]
    exact rv_mono _ (by omega)

theorem logTail_bd {x e : FV .f64} (hx : x.isFin = true) (h1 : (3 : Rat) / 4 ≤ x.val) (h2 : x.val ≤ 3 / 2) (he : Bd e 2100) : Bd (logTail x e) 2126 := by
  have o := one_val
  have ha : Bd (sub x (of .f64 4607182418800017408)) 1 :=
    (sub_rounds hx o.1).bd (by rw [f64_binade]; omega) (by rw [o.2]; show _ ≤ (1 : Rat); grind) (by rw [o.2]; show -(1 : Rat) ≤ _; grind)
  have hb : (add x (of .f64 4607182418800017408)).isFin = true ∧ 1 ≤ (add x (of .f64 4607182418800017408)).val := by
    have hf := (add_rounds hx o.1).between o.1 (show (of .f64 4613937818241073152).isFin = true by decide +kernel) (by rw [o.2]; grind) (by rw [o.2, show (of .f64 4613937818241073152).val = 3 by decide +kernel]; grind)
    exact ⟨hf.1, by rw [← o.2]; exact hf.2.1⟩
  have hs := ha.div hb.1 hb.2 (by rw [f64_binade]; omega)
  have hu := hs.mul hs (by rw [f64_binade]; omega)
  have hq := logQ_bd hu 13 (Nat.le_refl _)
  have h3 := bd_two.mul (hs.mul hq (by rw [f64_binade]; omega)) (by rw [f64_binade]; omega)
  exact h3.add (he.mul bd_ln2 (by rw [f64_binade]; omega)) (by rw [f64_binade]; omega)

/-- A normal number's argument lies where it should. -/
theorem log_arg {b : Nat} (h1 : 4503599627370496 ≤ b) (h2 : b < 9218868437227405312) :
    4604930618986332160 ≤ b + logDown b * 4503599627370496 - logUp b * 4503599627370496 ∧ b + logDown b * 4503599627370496 - logUp b * 4503599627370496 < 4609434218613702656 ∧ logUp b ≤ 1024 ∧ logDown b ≤ 1022 := by
  unfold logUp logDown
  by_cases c1 : 4609434218613702656 ≤ b
  · rw [if_pos c1, if_neg (by omega)]
    have d1 := Nat.div_add_mod (b - 4609434218613702656) 4503599627370496
    have d2 := Nat.mod_lt (b - 4609434218613702656) (show 0 < 4503599627370496 by omega)
    generalize (b - 4609434218613702656) / 4503599627370496 = q at *
    generalize (b - 4609434218613702656) % 4503599627370496 = r at *
    omega
  · rw [if_neg c1]
    by_cases c2 : b < 4604930618986332160
    · rw [if_pos c2]
      have d1 := Nat.div_add_mod (4604930618986332160 - b + 4503599627370495) 4503599627370496
      have d2 := Nat.mod_lt (4604930618986332160 - b + 4503599627370495) (show 0 < 4503599627370496 by omega)
      generalize (4604930618986332160 - b + 4503599627370495) / 4503599627370496 = q at *
      generalize (4604930618986332160 - b + 4503599627370495) % 4503599627370496 = r at *
      omega
    · rw [if_neg c2]
      omega

theorem logV_bd {x : FV .f64} (h1 : 4503599627370496 ≤ x.b) (h2 : x.b < 9218868437227405312) : Bd (logV x) 2126 := by
  obtain ⟨a, b, c, d⟩ := log_arg h1 h2
  obtain ⟨e, f, g⟩ := between_34_32 a b
  exact logTail_bd e f g (Bd.ofInt (by omega) (by omega) (by rw [f64_binade]; omega))

end FV
end Go
