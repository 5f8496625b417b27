/- Floats as rational numbers: what a word stands for; that rounding is monotone and stops at what can be written. -/
import Derived.Test.YteeficdlpoladaaFb
namespace Go
namespace FV

/-! ### Powers of two -/
def p2 (e : Int) : Rat := (2 : Rat) ^ e

theorem p2_pos (e : Int) : 0 < p2 e := Rat.zpow_pos (by decide)
theorem p2_add (a b : Int) : p2 (a + b) = p2 a * p2 b := Rat.zpow_add (by decide) a b
theorem p2_nat (n : Nat) : p2 (n : Int) = ((2 ^ n : Nat) : Rat) := by
  unfold p2
  rw [Rat.zpow_natCast, Rat.natCast_pow]
  rfl
theorem p2_zero : p2 0 = 1 := rfl
theorem p2_one : p2 1 = 2 := by unfold p2; rw [Rat.zpow_one]
theorem p2_succ (a : Int) : p2 (a + 1) = 2 * p2 a := by rw [p2_add, p2_one, Rat.mul_comm]
theorem p2_ge_one (n : Nat) : 1 ≤ p2 (n : Int) := by
  rw [p2_nat]
  have : (1 : Nat) ≤ 2 ^ n := Nat.one_le_two_pow
  exact_mod_cast this
theorem p2_le {a b : Int} (h : a ≤ b) : p2 a ≤ p2 b := by
  obtain ⟨n, rfl⟩ : ∃ n : Nat, b = a + n := ⟨(b - a).toNat, by omega⟩
  rw [p2_add]
  have h1 := p2_ge_one n
  have h2 := p2_pos a
  have := Rat.mul_le_mul_of_nonneg_left h1 (Rat.le_of_lt h2)
  grind
theorem p2_lt {a b : Int} (h : a < b) : p2 a < p2 b := by
  have h1 := p2_le (show a + 1 ≤ b by omega)
  have h2 := p2_pos a
  rw [p2_succ] at h1
  grind
theorem p2_lt_iff {a b : Int} : p2 a < p2 b ↔ a < b := by
  refine ⟨fun h => ?_, p2_lt⟩
  apply Classical.byContradiction
  intro hn
  have := p2_le (show b ≤ a by omega)
  grind
theorem nat_lt {a b : Nat} : ((a : Rat) < (b : Rat)) ↔ a < b := Rat.natCast_lt_natCast
theorem nat_le {a b : Nat} : ((a : Rat) ≤ (b : Rat)) ↔ a ≤ b := Rat.natCast_le_natCast

theorem mul_p2_le {a b : Rat} {e : Int} : a * p2 e ≤ b * p2 e ↔ a ≤ b := by
  have h := p2_pos e
  exact ⟨fun x => Rat.le_of_mul_le_mul_right x h, fun x => Rat.mul_le_mul_of_nonneg_right x (Rat.le_of_lt h)⟩
theorem mul_p2_lt {a b : Rat} {e : Int} : a * p2 e < b * p2 e ↔ a < b := Rat.mul_lt_mul_right (p2_pos e)

/-! ### Rungs -/
section rungs
variable (f : Ieee.Format)

/-- The magnitude of a rung; the binades go on without an end. -/
def rv (r : Nat) : Rat :=
  if r < f.binade then (r : Rat) * p2 f.leastPlace else ((f.binade + r % f.binade : Nat) : Rat) * p2 (f.leastPlace + (r / f.binade - 1 : Nat))

theorem binade_pos : 0 < f.binade := Nat.two_pow_pos _

/-- A rung by its place and its significand. -/
theorem rv_at (d K : Nat) (h1 : f.binade ≤ K ∨ d = 0) (h2 : K ≤ 2 * f.binade) : rv f (d * f.binade + K) = (K : Rat) * p2 (f.leastPlace + (d : Int)) := by
  have hb := binade_pos f
  by_cases hK : K < f.binade
  · obtain rfl : d = 0 := by omega
    unfold rv
    rw [if_pos (by omega)]
    simp
  · by_cases h3 : K = 2 * f.binade
    · subst h3
      have e1 : (d * f.binade + 2 * f.binade) / f.binade = d + 2 := by
        rw [← Nat.add_mul]; exact Nat.mul_div_cancel _ hb
      have e2 : (d * f.binade + 2 * f.binade) % f.binade = 0 := by
        rw [← Nat.add_mul]; exact Nat.mul_mod_left _ _
      unfold rv
      rw [if_neg (by have := Nat.zero_le (d * f.binade); omega), e1, e2]
      rw [show (f.leastPlace + ((d + 2 - 1 : Nat) : Int)) = (f.leastPlace + (d : Int)) + 1 by omega, p2_succ, Nat.add_zero, Rat.natCast_mul]
      have : ((2 : Nat) : Rat) = 2 := rfl
      rw [this]
      grind
    · have e1 : (d * f.binade + K) / f.binade = d + 1 := by
        rw [show d * f.binade + K = (K - f.binade) + (d + 1) * f.binade by rw [Nat.add_mul]; omega, Nat.add_mul_div_right _ _ hb, Nat.div_eq_of_lt (by omega)]
        omega
      have e2 : (d * f.binade + K) % f.binade = K - f.binade := by
        rw [show d * f.binade + K = (K - f.binade) + (d + 1) * f.binade by rw [Nat.add_mul]; omega, Nat.add_mul_mod_self_right, Nat.mod_eq_of_lt (by omega)]
      unfold rv
      rw [if_neg (by have := Nat.zero_le (d * f.binade); omega), e1, e2]
      rw [show f.binade + (K - f.binade) = K by omega, show (f.leastPlace + ((d + 1 - 1 : Nat) : Int)) = (f.leastPlace + (d : Int)) by omega]

/-- Every rung has a place and a significand. -/
theorem rung_form (r : Nat) : ∃ d K, r = d * f.binade + K ∧ (f.binade ≤ K ∨ d = 0) ∧ K < 2 * f.binade := by
  have hb := binade_pos f
  by_cases h : r < f.binade
  · exact ⟨0, r, by omega, .inr rfl, by omega⟩
  · have h1 : 1 ≤ r / f.binade := (Nat.le_div_iff_mul_le hb).2 (by omega)
    have h2 := Nat.div_add_mod r f.binade
    have h3 := Nat.mod_lt r hb
    refine ⟨r / f.binade - 1, f.binade + r % f.binade, ?_, .inl (by omega), by omega⟩
    have : f.binade * (r / f.binade) = (r / f.binade - 1) * f.binade + f.binade := by
      obtain ⟨q, hq⟩ : ∃ q, r / f.binade = q + 1 := ⟨r / f.binade - 1, by omega⟩
      rw [hq, Nat.mul_comm, Nat.add_mul]; simp
    omega

theorem rv_succ (r : Nat) : rv f r < rv f (r + 1) := by
  obtain ⟨d, K, rfl, h1, h2⟩ := rung_form f r
  rw [Nat.add_assoc, rv_at f d K h1 (by omega), rv_at f d (K + 1) (by omega) (by omega), mul_p2_lt, nat_lt]
  omega

theorem rv_mono {r s : Nat} (h : r ≤ s) : rv f r ≤ rv f s := by
  induction s with
  | zero => obtain rfl : r = 0 := by omega
            exact Rat.le_refl
  | succ s ih =>
    by_cases h1 : r = s + 1
    · subst h1; exact Rat.le_refl
    · exact Rat.le_trans (ih (by omega)) (Rat.le_of_lt (rv_succ f s))

theorem rv_lt {r s : Nat} (h : r < s) : rv f r < rv f s := by
  have h1 := rv_mono f (show r + 1 ≤ s by omega)
  have h2 := rv_succ f r
  grind

theorem rv_le_iff {r s : Nat} : rv f r ≤ rv f s ↔ r ≤ s := by
  refine ⟨fun h => ?_, rv_mono f⟩
  apply Classical.byContradiction
  intro hn
  have := rv_lt f (show s < r by omega)
  grind

theorem rv_lt_iff {r s : Nat} : rv f r < rv f s ↔ r < s := by
  refine ⟨fun h => ?_, rv_lt f⟩
  apply Classical.byContradiction
  intro hn
  have := rv_mono f (show s ≤ r by omega)
  grind

theorem rv_zero : rv f 0 = 0 := by
  unfold rv; rw [if_pos (binade_pos f)]; simp

theorem rv_nonneg (r : Nat) : 0 ≤ rv f r := by rw [← rv_zero f]; exact rv_mono f (Nat.zero_le _)
end rungs

/-! ### Cutting -/
theorem cut_mono_up {neg : Bool} {n drop c : Nat} (h : n ≤ c * 2 ^ drop) : Ieee.Toward.even.cut neg n drop ≤ c := by
  unfold Ieee.Toward.cut
  simp only [Nat.one_shiftLeft]
  by_cases hd : drop ≤ n.log2 + 2
  · rw [Nat.min_eq_left hd]
    generalize hg : 2 ^ drop = g at *
    have hg0 : 0 < g := by rw [← hg]; exact Nat.two_pow_pos _
    have h1 := Nat.div_add_mod n g
    have h2 := Nat.mod_lt n hg0
    have h3 : n / g ≤ c := by
      have := Nat.div_le_div_right (c := g) h
      rwa [Nat.mul_div_cancel _ hg0] at this
    by_cases h4 : n / g = c
    · have h5 : n % g = 0 := by
        rw [h4, Nat.mul_comm] at h1; omega
      rw [h5]
      have : ((decide (g < 2 * 0) || g == 2 * 0 && n / g % 2 == 1) : Bool) = false := by
        simp; omega
      rw [this, h4]; exact Nat.le_refl _
    · have : ∀ b : Bool, b.toNat ≤ 1 := by intro b; cases b <;> decide
      have := this (decide (g < 2 * (n % g)) || g == 2 * (n % g) && n / g % 2 == 1)
      omega
  · rw [Nat.min_eq_right (by omega)]
    have hlt : n < 2 ^ (n.log2 + 1) := Nat.lt_log2_self
    have e : 2 ^ (n.log2 + 2) = 2 * 2 ^ (n.log2 + 1) := by rw [show n.log2 + 2 = (n.log2 + 1) + 1 from rfl, Nat.pow_succ, Nat.mul_comm]
    generalize 2 ^ (n.log2 + 2) = g at *
    rw [Nat.div_eq_of_lt (by omega), Nat.mod_eq_of_lt (by omega)]
    have : ((decide (g < 2 * n) || g == 2 * n && 0 % 2 == 1) : Bool) = false := by
      simp; omega
    rw [this]
    exact Nat.zero_le _

theorem cut_mono_down {neg : Bool} {n drop c : Nat} (h : c * 2 ^ drop ≤ n) : c ≤ Ieee.Toward.even.cut neg n drop := by
  unfold Ieee.Toward.cut
  simp only [Nat.one_shiftLeft]
  by_cases hd : drop ≤ n.log2 + 2
  · rw [Nat.min_eq_left hd]
    have hg0 : 0 < 2 ^ drop := Nat.two_pow_pos _
    have h3 : c ≤ n / 2 ^ drop := (Nat.le_div_iff_mul_le hg0).2 h
    omega
  · have hlt : n < 2 ^ (n.log2 + 1) := Nat.lt_log2_self
    have hp : 2 ^ (n.log2 + 1) ≤ 2 ^ drop := Nat.pow_le_pow_right (by decide) (by omega)
    have : c = 0 := by
      apply Classical.byContradiction
      intro hc
      have : 1 * 2 ^ drop ≤ c * 2 ^ drop := Nat.mul_le_mul_right _ (by omega)
      omega
    subst this
    exact Nat.zero_le _

/-! ### The nearest rung -/
section near
variable (f : Ieee.Format)

/-- The place of the last digit that is kept, the digits, and the rung (without a bound). -/
def lastOf (mag : Nat) (place : Int) : Int := max (place + mag.log2 - f.fractionBits) f.leastPlace
def keptOf (mag : Nat) (place : Int) : Nat := Ieee.Toward.even.cut false (mag <<< (place - lastOf f mag place).toNat) (lastOf f mag place - place).toNat
def rungOf (mag : Nat) (place : Int) : Nat := (lastOf f mag place - f.leastPlace).toNat * f.binade + keptOf f mag place

theorem cut_even_neg (neg : Bool) (n d : Nat) : Ieee.Toward.even.cut neg n d = Ieee.Toward.even.cut false n d := rfl

theorem nearest_eq (neg : Bool) {mag : Nat} (place : Int) (h : mag ≠ 0) : f.nearest neg mag place = f.word neg (min (rungOf f mag place) f.infRung) := by
  unfold Ieee.Format.nearest
  rw [if_neg h]
  rfl

/-- The number, counted in units of the last place that is kept: 'n / 2 ^ drop' of them. -/
theorem units (mag : Nat) (place last : Int) : ((mag <<< (place - last).toNat : Nat) : Rat) * p2 last = ((2 ^ (last - place).toNat : Nat) : Rat) * ((mag : Rat) * p2 place) := by
  rw [Nat.shiftLeft_eq, Rat.natCast_mul, ← p2_nat, ← p2_nat]
  have h : p2 ((place - last).toNat : Int) * p2 last = p2 ((last - place).toNat : Int) * p2 place := by
    rw [← p2_add, ← p2_add]
    congr 1
    omega
  grind

theorem log2_bounds {n : Nat} (h : n ≠ 0) : 2 ^ n.log2 ≤ n ∧ n < 2 ^ (n.log2 + 1) := ⟨Nat.log2_self_le h, Nat.lt_log2_self⟩

theorem mag_lt (mag : Nat) (place : Int) : (mag : Rat) * p2 place < p2 (place + mag.log2 + 1) := by
  have h1 : mag < 2 ^ (mag.log2 + 1) := Nat.lt_log2_self
  have h2 := nat_lt.2 h1
  rw [← p2_nat] at h2
  have h3 := (mul_p2_lt (e := place)).2 h2
  rw [← p2_add] at h3
  rwa [show ((mag.log2 + 1 : Nat) : Int) + place = place + mag.log2 + 1 by omega] at h3

theorem le_mag {mag : Nat} (place : Int) (h : mag ≠ 0) : p2 (place + mag.log2) ≤ (mag : Rat) * p2 place := by
  have h1 := nat_le.2 (Nat.log2_self_le h)
  rw [← p2_nat] at h1
  have h3 := (mul_p2_le (e := place)).2 h1
  rw [← p2_add] at h3
  rwa [show ((mag.log2 : Nat) : Int) + place = place + mag.log2 by omega] at h3

theorem binade_p2 : ((f.binade : Nat) : Rat) = p2 (f.fractionBits : Int) := by rw [p2_nat]; rfl

theorem kept_le {mag : Nat} {place : Int} {c : Nat} (h : (mag : Rat) * p2 place ≤ (c : Rat) * p2 (lastOf f mag place)) : keptOf f mag place ≤ c := by
  refine cut_mono_up ?_
  have hu := units mag place (lastOf f mag place)
  rw [← nat_le, ← mul_p2_le (e := lastOf f mag place), hu, Rat.natCast_mul]
  have hp : (0 : Rat) ≤ ((2 ^ (lastOf f mag place - place).toNat : Nat) : Rat) := Rat.natCast_nonneg
  have := Rat.mul_le_mul_of_nonneg_left h hp
  grind

theorem le_kept {mag : Nat} {place : Int} {c : Nat} (h : (c : Rat) * p2 (lastOf f mag place) ≤ (mag : Rat) * p2 place) : c ≤ keptOf f mag place := by
  refine cut_mono_down ?_
  have hu := units mag place (lastOf f mag place)
  rw [← nat_le, ← mul_p2_le (e := lastOf f mag place), hu, Rat.natCast_mul]
  have hp : (0 : Rat) ≤ ((2 ^ (lastOf f mag place - place).toNat : Nat) : Rat) := Rat.natCast_nonneg
  have := Rat.mul_le_mul_of_nonneg_left h hp
  grind

theorem last_ge (mag : Nat) (place : Int) : f.leastPlace ≤ lastOf f mag place := Int.le_max_right ..

theorem kept_bounds {mag : Nat} (place : Int) (h : mag ≠ 0) : keptOf f mag place ≤ 2 * f.binade ∧ (lastOf f mag place = f.leastPlace ∨ f.binade ≤ keptOf f mag place) := by
  constructor
  · refine kept_le f ?_
    have h1 := mag_lt mag place
    have h2 : p2 (place + mag.log2 + 1) ≤ p2 ((f.fractionBits : Int) + 1 + lastOf f mag place) := p2_le (by unfold lastOf; omega)
    rw [p2_add ((f.fractionBits : Int) + 1), p2_succ (f.fractionBits : Int), ← binade_p2] at h2
    have : ((2 * f.binade : Nat) : Rat) = 2 * (f.binade : Rat) := by rw [Rat.natCast_mul]; rfl
    rw [this]
    grind
  · by_cases hl : lastOf f mag place = f.leastPlace
    · exact .inl hl
    · right
      refine le_kept f ?_
      have h1 := le_mag place h
      have h2 : lastOf f mag place = place + mag.log2 - f.fractionBits := by unfold lastOf at *; omega
      rw [binade_p2, ← p2_add, h2]
      rwa [show (f.fractionBits : Int) + (place + mag.log2 - f.fractionBits) = place + mag.log2 by omega]

theorem rv_rungOf {mag : Nat} (place : Int) (h : mag ≠ 0) : rv f (rungOf f mag place) = (keptOf f mag place : Rat) * p2 (lastOf f mag place) := by
  have hk := kept_bounds f place h
  have hl := last_ge f mag place
  unfold rungOf
  rw [rv_at f _ _ (by rcases hk.2 with e | e; (right; omega); (left; exact e)) hk.1]
  congr 2
  omega

/-- ROUNDING IS MONOTONE, AND STOPS AT WHAT CAN BE WRITTEN. -/
theorem rungOf_le {mag : Nat} {place : Int} {r : Nat} (hm : mag ≠ 0) (h : (mag : Rat) * p2 place ≤ rv f r) : rungOf f mag place ≤ r := by
  apply Classical.byContradiction
  intro hn
  have hlt : r < rungOf f mag place := by omega
  have hk := kept_bounds f place hm
  have hl := last_ge f mag place
  by_cases hc : lastOf f mag place = f.leastPlace ∨ f.binade < keptOf f mag place
  · -- one digit less
    have hpos : 0 < keptOf f mag place := by
      rcases hc with hc | hc
      · unfold rungOf at hlt; rw [hc] at hlt; simp at hlt; omega
      · omega
    have e : rungOf f mag place - 1 = (lastOf f mag place - f.leastPlace).toNat * f.binade + (keptOf f mag place - 1) := by unfold rungOf; omega
    have hv : rv f (rungOf f mag place - 1) = ((keptOf f mag place - 1 : Nat) : Rat) * p2 (lastOf f mag place) := by
      rw [e, rv_at f _ _ (by rcases hc with e | e; (right; omega); (left; omega)) (by omega)]
      congr 2
      omega
    have h1 := rv_mono f (show r ≤ rungOf f mag place - 1 by omega)
    rw [hv] at h1
    have := kept_le f (c := keptOf f mag place - 1) (Rat.le_trans h h1)
    omega
  · -- the first of a binade
    have hc : lastOf f mag place ≠ f.leastPlace ∧ keptOf f mag place ≤ f.binade := by
      constructor
      · exact fun e => hc (.inl e)
      · have := fun e => hc (.inr e); omega
    have hke : keptOf f mag place = f.binade := by rcases hk.2 with e | e; (exact absurd e hc.1); omega
    have h1 := rv_lt f hlt
    rw [rv_rungOf f place hm, hke] at h1
    have h2 := le_mag place hm
    have h3 : lastOf f mag place = place + mag.log2 - f.fractionBits := by have := hc.1; unfold lastOf at *; omega
    rw [binade_p2, ← p2_add, h3, show (f.fractionBits : Int) + (place + mag.log2 - f.fractionBits) = place + mag.log2 by omega] at h1
    grind

theorem le_rungOf {mag : Nat} {place : Int} {r : Nat} (hm : mag ≠ 0) (h : rv f r ≤ (mag : Rat) * p2 place) : r ≤ rungOf f mag place := by
  apply Classical.byContradiction
  intro hn
  have hlt : rungOf f mag place < r := by omega
  have hk := kept_bounds f place hm
  have hl := last_ge f mag place
  by_cases hc : keptOf f mag place < 2 * f.binade
  · have e : rungOf f mag place + 1 = (lastOf f mag place - f.leastPlace).toNat * f.binade + (keptOf f mag place + 1) := by unfold rungOf; omega
    have hv : rv f (rungOf f mag place + 1) = ((keptOf f mag place + 1 : Nat) : Rat) * p2 (lastOf f mag place) := by
      rw [e, rv_at f _ _ (by rcases hk.2 with e | e; (right; omega); (left; omega)) (by omega)]
      congr 2
      omega
    have h1 := rv_mono f (show rungOf f mag place + 1 ≤ r by omega)
    rw [hv] at h1
    have := le_kept f (c := keptOf f mag place + 1) (Rat.le_trans h1 h)
    omega
  · have h1 := rv_lt f hlt
    have hke : keptOf f mag place = 2 * f.binade := by omega
    rw [rv_rungOf f place hm, hke] at h1
    have h2 := mag_lt mag place
    have h3 : p2 (place + mag.log2 + 1) ≤ p2 ((f.fractionBits : Int) + 1 + lastOf f mag place) := p2_le (by unfold lastOf; omega)
    rw [p2_add ((f.fractionBits : Int) + 1), p2_succ (f.fractionBits : Int), ← binade_p2] at h3
    have : ((2 * f.binade : Nat) : Rat) = 2 * (f.binade : Rat) := by rw [Rat.natCast_mul]; rfl
    rw [this] at h1
    grind
end near

end FV
end Go
