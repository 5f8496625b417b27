/- Floats as rational numbers, IV: conversions, the opposite, comparisons, integers, roots. -/
import Derived.Test.YteeficdlpoladaaFe
namespace Go
namespace FV
variable {k : FloatKind}

/-! ### Conversions -/
theorem conv_rounds (k' : FloatKind) {x : FV k} (hx : x.isFin = true) : Rounds (conv k' x) x.val := by
  obtain ⟨s, m, i, hd⟩ := fin_number hx
  have hr := nearest_rounds k' s m i
  unfold conv val
  rw [if_neg (by rw [fin_not_nan hx]; simp), hd]
  exact hr

theorem fits_of {k' : FloatKind} {x : FV k} (h : x.isFin = true → (conv k' x).isFin = true) : fits k' x = true := by
  unfold fits
  cases hi : x.datum.isInfinity
  · cases hn : x.isNaN
    · have hx : x.isFin = true := by
        unfold isFin; unfold isNaN at hn
        cases hd : x.datum with
        | number => rfl
        | infinity s => rw [hd] at hi; cases hi
        | nan s f => rw [hd] at hn; cases hn
      have hc := h hx
      obtain ⟨s, m, i, hd⟩ := fin_number hx
      unfold conv at hc
      rw [if_neg (by rw [hn]; simp)] at hc
      obtain ⟨s', m', i', hd'⟩ := fin_number hc
      rw [hd] at hd' ⊢
      rw [datum_of (write_number_not_nan _ rfl)] at hd'
      rw [hd']
      rfl
    · rfl
  · rfl

theorem rv_top (k : FloatKind) : rv k.format (k.format.infRung - 1) < rv k.format k.format.infRung := by
  have := binade_le_inf k
  exact rv_lt k.format (by omega)

/-- Every float32 is a float64. -/
theorem widen_exact {x : FV .f32} (hx : x.isFin = true) : (conv .f64 x).isFin = true ∧ (conv .f64 x).val = x.val := by
  obtain ⟨s, r, hr, rfl, hv⟩ := fin_rung hx
  -- the rung of a float64 of the same magnitude
  have key : ∃ R, R < FloatKind.f64.format.infRung ∧ rv FloatKind.f64.format R = rv FloatKind.f32.format r := by
    by_cases h0 : r = 0
    · subst h0
      exact ⟨0, by decide, by rw [rv_zero, rv_zero]⟩
    · obtain ⟨d, K, rfl, h1, h2⟩ := rung_form FloatKind.f32.format r
      have e1 : FloatKind.f32.format.binade = 8388608 := rfl
      have e2 : FloatKind.f32.format.infRung = 2139095040 := rfl
      have e3 : FloatKind.f32.format.leastPlace = -149 := rfl
      have f1 : FloatKind.f64.format.binade = 4503599627370496 := rfl
      have f2 : FloatKind.f64.format.infRung = 9218868437227405312 := rfl
      have f3 : FloatKind.f64.format.leastPlace = -1074 := rfl
      rw [e1] at h1 h2 hr h0
      rw [e2] at hr
      have hK0 : K ≠ 0 := by omega
      have hlo := Nat.log2_self_le hK0
      have hhi : K < 2 ^ (K.log2 + 1) := Nat.lt_log2_self
      have hl : K.log2 ≤ 23 := by
        apply Classical.byContradiction; intro hn
        have : 2 ^ 24 ≤ 2 ^ K.log2 := Nat.pow_le_pow_right (by decide) (by omega)
        omega
      -- K * 2 ^ (52 - log2 K) lies in the binade
      have hup : K * 2 ^ (52 - K.log2) < 2 * 4503599627370496 ∧ 4503599627370496 ≤ K * 2 ^ (52 - K.log2) := by
        have p1 : 2 ^ K.log2 * 2 ^ (52 - K.log2) = 4503599627370496 := by rw [← Nat.pow_add, show K.log2 + (52 - K.log2) = 52 by omega]
        have p2 : 2 ^ (K.log2 + 1) * 2 ^ (52 - K.log2) = 2 * 4503599627370496 := by rw [← Nat.pow_add, show K.log2 + 1 + (52 - K.log2) = 53 by omega]
        have q1 := Nat.mul_le_mul_right (2 ^ (52 - K.log2)) hlo
        have q2 := Nat.mul_lt_mul_of_pos_right hhi (Nat.two_pow_pos (52 - K.log2))
        omega
      refine ⟨(d + K.log2 + 873) * FloatKind.f64.format.binade + K * 2 ^ (52 - K.log2), ?_, ?_⟩
      · rw [f1, f2]
        have hd : d ≤ 253 := by clear hlo hhi hup; omega
        have h3 := hup.1
        clear hlo hhi hup
        have h4 : (d + K.log2 + 873) * 4503599627370496 ≤ 1149 * 4503599627370496 := Nat.mul_le_mul_right _ (by omega)
        exact Nat.lt_of_lt_of_le (Nat.add_lt_add_of_le_of_lt h4 h3) (by decide)
      · rw [e1, rv_at FloatKind.f64.format _ _ (.inl (by rw [f1]; omega)) (by rw [f1]; omega), ← e1, rv_at FloatKind.f32.format d K (by rw [e1]; exact h1) (by rw [e1]; omega), e3, f3]
        rw [Rat.natCast_mul, ← p2_nat, Rat.mul_assoc, ← p2_add]
        have e : ((52 - K.log2 : Nat) : Int) + (-1074 + ((d + K.log2 + 873 : Nat) : Int)) = -149 + (d : Int) := by
          clear hlo hhi hup; omega
        rw [e]
  obtain ⟨R, hR, hRv⟩ := key
  have hf : (ofRung .f64 s R).isFin = true := by rw [ofRung_fin]; exact decide_eq_true hR
  have hv' := ofRung_val .f64 s hR
  rw [hRv, ← hv] at hv'
  have h := (conv_rounds .f64 hx).exact hf hv'.symm
  exact ⟨h.1, h.2.trans hv'⟩

theorem fits_widen (x : FV .f32) : fits .f64 x = true := fits_of fun h => (widen_exact h).1

/-! ### The opposite -/
theorem neg_datum {x : FV k} (h : x.isNaN = false) : (neg x).datum = x.datum.opposite := by
  have hn : (k.format.read (Op.negFloat k x.b)).isNaN = false := by rw [read_neg, opposite_nan]; exact h
  unfold neg
  rw [if_neg (by rw [h]; simp), datum_of hn, read_neg]
  rfl

theorem neg_fin (x : FV k) : (neg x).isFin = x.isFin := by
  cases h : x.isNaN
  · unfold isFin; rw [neg_datum h]; cases x.datum <;> rfl
  · rw [show neg x = nan k by unfold neg; rw [if_pos h], ← eq_nan h]

theorem neg_val {x : FV k} (h : x.isNaN = false) : (neg x).val = - x.val := by
  unfold val; rw [neg_datum h, dval_opposite]

/-! ### Comparisons -/
def rcmp (a b : Rat) : Ordering := if a < b then .lt else if a = b then .eq else .gt

theorem cmp_fin {x y : FV k} (hx : x.isFin = true) (hy : y.isFin = true) : cmp x y = some (rcmp x.val y.val) := by
  obtain ⟨s, m, i, hd⟩ := fin_number hx
  obtain ⟨t, n, j, hd'⟩ := fin_number hy
  have h1 := signed_val s m (Int.min_le_left i j)
  have h2 := signed_val t n (Int.min_le_right i j)
  unfold cmp
  show (k.format.read x.b).order (k.format.read y.b) = _
  unfold val
  rw [show k.format.read x.b = x.datum from rfl, show k.format.read y.b = y.datum from rfl, hd, hd', ← h1, ← h2]
  simp only [Ieee.Datum.order]
  generalize Ieee.signed s m (i - min i j).toNat = a
  generalize Ieee.signed t n (j - min i j).toNat = b
  congr 1
  unfold rcmp
  by_cases hab : a < b
  · rw [if_pos (mul_p2_lt.2 (Rat.intCast_lt_intCast.2 hab))]; exact Int.compare_eq_lt.2 hab
  · rw [if_neg (fun h => hab (Rat.intCast_lt_intCast.1 (mul_p2_lt.1 h)))]
    by_cases he : a = b
    · subst he; rw [if_pos rfl]; exact Int.compare_eq_eq.2 rfl
    · rw [if_neg]
      · exact Int.compare_eq_gt.2 (by omega)
      · intro h
        have h3 := (mul_p2_le (e := min i j)).1 (by rw [h]; exact Rat.le_refl : (a : Rat) * p2 (min i j) ≤ (b : Rat) * p2 (min i j))
        have h4 := (mul_p2_le (e := min i j)).1 (by rw [h]; exact Rat.le_refl : (b : Rat) * p2 (min i j) ≤ (a : Rat) * p2 (min i j))
        rw [Rat.intCast_le_intCast] at h3 h4
        omega

theorem lt_iff {x y : FV k} (hx : x.isFin = true) (hy : y.isFin = true) : lt x y = true ↔ x.val < y.val := by
  unfold lt; rw [cmp_fin hx hy]; unfold rcmp
  split
  · simp [*]
  · split <;> simp [*]
theorem gt_iff {x y : FV k} (hx : x.isFin = true) (hy : y.isFin = true) : gt x y = true ↔ y.val < x.val := by
  unfold gt; rw [cmp_fin hx hy]; unfold rcmp
  split
  · simp; grind
  · split <;> simp <;> grind
theorem eq_iff {x y : FV k} (hx : x.isFin = true) (hy : y.isFin = true) : eq x y = true ↔ x.val = y.val := by
  unfold eq; rw [cmp_fin hx hy]; unfold rcmp
  split
  · simp; grind
  · split <;> simp <;> grind
theorem le_iff {x y : FV k} (hx : x.isFin = true) (hy : y.isFin = true) : le x y = true ↔ x.val ≤ y.val := by
  unfold le; rw [cmp_fin hx hy]; unfold rcmp
  split
  · simp; grind
  · split <;> simp <;> grind
theorem ge_iff {x y : FV k} (hx : x.isFin = true) (hy : y.isFin = true) : ge x y = true ↔ y.val ≤ x.val := by
  unfold ge; rw [cmp_fin hx hy]; unfold rcmp
  split
  · simp; grind
  · split <;> simp <;> grind

theorem cmp_nan_left {x y : FV k} (h : x.isNaN = true) : cmp x y = none := order_nan_left h
theorem cmp_nan_right {x y : FV k} (h : y.isNaN = true) : cmp x y = none := order_nan_right h

/-! ### Integers -/
def ofInt (k : FloatKind) (n : Int) : FV k := of k (floatOfInt k n)

theorem ofInt_rounds (k : FloatKind) (n : Int) : Rounds (ofInt k n) (n : Rat) := by
  have h := nearest_rounds k (decide (n < 0)) n.natAbs 0
  rw [int_cast_natAbs, p2_zero] at h
  have := sg_sq (decide (n < 0))
  rw [show sg (decide (n < 0)) * (sg (decide (n < 0)) * (n : Rat) * 1) = (n : Rat) by grind] at h
  exact h

/-- An integer of at most as many digits as a significand is a float. -/
theorem nat_float (k : FloatKind) {n : Nat} (h : n ≤ 2 * k.format.binade) : ∃ r, r < k.format.infRung ∧ rv k.format r = (n : Rat) := by
  by_cases h0 : n = 0
  · subst h0
    have := binade_le_inf k
    exact ⟨0, by omega, rv_zero _⟩
  · have h1 := Nat.log2_self_le h0
    have h2 : n < 2 ^ (n.log2 + 1) := Nat.lt_log2_self
    have hfb : k.format.binade = 2 ^ k.format.fractionBits := rfl
    by_cases hl : n.log2 ≤ k.format.fractionBits
    · have hup : n * 2 ^ (k.format.fractionBits - n.log2) < 2 * k.format.binade ∧ k.format.binade ≤ n * 2 ^ (k.format.fractionBits - n.log2) := by
        have p1 : 2 ^ n.log2 * 2 ^ (k.format.fractionBits - n.log2) = k.format.binade := by rw [hfb, ← Nat.pow_add]; congr 1; omega
        have p2 : 2 ^ (n.log2 + 1) * 2 ^ (k.format.fractionBits - n.log2) = 2 * k.format.binade := by rw [Nat.pow_succ, Nat.mul_right_comm, p1, Nat.mul_comm]
        have q1 := Nat.mul_le_mul_right (2 ^ (k.format.fractionBits - n.log2)) h1
        have q2 := Nat.mul_lt_mul_of_pos_right h2 (Nat.two_pow_pos (k.format.fractionBits - n.log2))
        omega
      refine ⟨((n.log2 : Int) - k.format.fractionBits - k.format.leastPlace).toNat * k.format.binade + n * 2 ^ (k.format.fractionBits - n.log2), ?_, ?_⟩
      · cases k
        · have e1 : FloatKind.f32.format.binade = 8388608 := rfl
          have e2 : FloatKind.f32.format.infRung = 2139095040 := rfl
          have e3 : FloatKind.f32.format.leastPlace = -149 := rfl
          have e4 : FloatKind.f32.format.fractionBits = 23 := rfl
          rw [e1, e4] at hup; rw [e4] at hl
          rw [e1, e2, e3, e4]
          omega
        · have e1 : FloatKind.f64.format.binade = 4503599627370496 := rfl
          have e2 : FloatKind.f64.format.infRung = 9218868437227405312 := rfl
          have e3 : FloatKind.f64.format.leastPlace = -1074 := rfl
          have e4 : FloatKind.f64.format.fractionBits = 52 := rfl
          rw [e1, e4] at hup; rw [e4] at hl
          rw [e1, e2, e3, e4]
          omega
      · rw [rv_at k.format _ _ (.inl hup.2) (by omega), Rat.natCast_mul, ← p2_nat, Rat.mul_assoc, ← p2_add]
        have e : ((k.format.fractionBits - n.log2 : Nat) : Int) + (k.format.leastPlace + (((n.log2 : Int) - k.format.fractionBits - k.format.leastPlace).toNat : Int)) = 0 := by
          have : k.format.leastPlace ≤ - (k.format.fractionBits : Int) := by cases k <;> decide
          omega
        rw [e, p2_zero, Rat.mul_one]
    · -- the power of two itself
      have hn : n = 2 ^ (k.format.fractionBits + 1) := by
        have h3 : 2 ^ (k.format.fractionBits + 1) ≤ 2 ^ n.log2 := Nat.pow_le_pow_right (by decide) (by omega)
        have h4 : 2 ^ (k.format.fractionBits + 1) = 2 * k.format.binade := by rw [Nat.pow_succ, Nat.mul_comm]; rfl
        omega
      refine ⟨(- k.format.leastPlace).toNat * k.format.binade + 2 * k.format.binade, ?_, ?_⟩
      · cases k <;> decide
      · rw [rv_at k.format _ _ (.inl (by omega)) (Nat.le_refl _)]
        have e : (k.format.leastPlace + ((-k.format.leastPlace).toNat : Int)) = 0 := by
          have : k.format.leastPlace ≤ 0 := by cases k <;> decide
          omega
        rw [e, p2_zero, Rat.mul_one, hn, Nat.pow_succ, Nat.mul_comm]
        rfl

theorem int_float (k : FloatKind) {n : Int} (h : n.natAbs ≤ 2 * k.format.binade) : ∃ y : FV k, y.isFin = true ∧ y.val = (n : Rat) := by
  obtain ⟨r, hr, hv⟩ := nat_float k h
  refine ⟨ofRung k (decide (n < 0)) r, by rw [ofRung_fin]; exact decide_eq_true hr, ?_⟩
  rw [ofRung_val k _ hr, hv, int_cast_natAbs]
  have := sg_sq (decide (n < 0))
  grind

theorem ofInt_exact (k : FloatKind) {n : Int} (h : n.natAbs ≤ 2 * k.format.binade) : (ofInt k n).isFin = true ∧ (ofInt k n).val = (n : Rat) := by
  obtain ⟨y, hy, hv⟩ := int_float k h
  have := (ofInt_rounds k n).exact hy hv.symm
  exact ⟨this.1, this.2.trans hv⟩

/-- A number of units of a place, few enough, is a float. -/
theorem dyadic_float (k : FloatKind) {n : Nat} {e : Int} (h : n ≤ 2 * k.format.binade) (h1 : k.format.leastPlace ≤ e) (h2 : e ≤ 100) : ∃ r, r < k.format.infRung ∧ rv k.format r = (n : Rat) * p2 e := by
  by_cases h0 : n = 0
  · subst h0
    have := binade_le_inf k
    exact ⟨0, by omega, by rw [rv_zero]; simp⟩
  · by_cases hb : k.format.binade ≤ n
    · refine ⟨(e - k.format.leastPlace).toNat * k.format.binade + n, ?_, ?_⟩
      · cases k
        · have e1 : FloatKind.f32.format.binade = 8388608 := rfl
          have e2 : FloatKind.f32.format.infRung = 2139095040 := rfl
          have e3 : FloatKind.f32.format.leastPlace = -149 := rfl
          rw [e1] at h; rw [e3] at h1
          rw [e1, e2, e3]
          omega
        · have e1 : FloatKind.f64.format.binade = 4503599627370496 := rfl
          have e2 : FloatKind.f64.format.infRung = 9218868437227405312 := rfl
          have e3 : FloatKind.f64.format.leastPlace = -1074 := rfl
          rw [e1] at h; rw [e3] at h1
          rw [e1, e2, e3]
          omega
      · rw [rv_at k.format _ _ (.inl hb) h]
        congr 2
        omega
    · -- shift it up as far as it goes
      have hx : ∃ j : Nat, (j : Int) ≤ e - k.format.leastPlace ∧ n * 2 ^ j < 2 * k.format.binade ∧ (k.format.binade ≤ n * 2 ^ j ∨ (j : Int) = e - k.format.leastPlace) := by
        have h3 := Nat.log2_self_le h0
        have h4 : n < 2 ^ (n.log2 + 1) := Nat.lt_log2_self
        have hfb : k.format.binade = 2 ^ k.format.fractionBits := rfl
        have hl : n.log2 < k.format.fractionBits := by
          apply Classical.byContradiction; intro hn
          have : 2 ^ k.format.fractionBits ≤ 2 ^ n.log2 := Nat.pow_le_pow_right (by decide) (by omega)
          omega
        have up : ∀ j, j ≤ k.format.fractionBits - n.log2 → n * 2 ^ j < 2 * k.format.binade := by
          intro j hj
          have q2 := Nat.mul_lt_mul_of_pos_right h4 (Nat.two_pow_pos j)
          have : 2 ^ (n.log2 + 1) * 2 ^ j ≤ 2 * k.format.binade := by
            rw [← Nat.pow_add, hfb, ← Nat.pow_succ']
            exact Nat.pow_le_pow_right (by decide) (by omega)
          omega
        by_cases hj : ((k.format.fractionBits - n.log2 : Nat) : Int) ≤ e - k.format.leastPlace
        · refine ⟨k.format.fractionBits - n.log2, hj, up _ (Nat.le_refl _), .inl ?_⟩
          have q1 := Nat.mul_le_mul_right (2 ^ (k.format.fractionBits - n.log2)) h3
          have p1 : 2 ^ n.log2 * 2 ^ (k.format.fractionBits - n.log2) = k.format.binade := by rw [hfb, ← Nat.pow_add]; congr 1; omega
          omega
        · exact ⟨(e - k.format.leastPlace).toNat, by omega, up _ (by omega), .inr (by omega)⟩
      obtain ⟨j, hj1, hj2, hj3⟩ := hx
      refine ⟨(e - j - k.format.leastPlace).toNat * k.format.binade + n * 2 ^ j, ?_, ?_⟩
      · cases k
        · have e1 : FloatKind.f32.format.binade = 8388608 := rfl
          have e2 : FloatKind.f32.format.infRung = 2139095040 := rfl
          have e3 : FloatKind.f32.format.leastPlace = -149 := rfl
          rw [e1] at hj2; rw [e3] at h1
          rw [e1, e2, e3]
          omega
        · have e1 : FloatKind.f64.format.binade = 4503599627370496 := rfl
          have e2 : FloatKind.f64.format.infRung = 9218868437227405312 := rfl
          have e3 : FloatKind.f64.format.leastPlace = -1074 := rfl
          rw [e1] at hj2; rw [e3] at h1
          rw [e1, e2, e3]
          omega
      · rw [rv_at k.format _ _ (by rcases hj3 with h | h; (left; exact h); (right; omega)) (by omega), Rat.natCast_mul, ← p2_nat, Rat.mul_assoc, ← p2_add]
        congr 2
        omega

/-- Such a number, with its sign. -/
theorem dyadic (k : FloatKind) {n : Int} {e : Int} (h : n.natAbs ≤ 2 * k.format.binade) (h1 : k.format.leastPlace ≤ e) (h2 : e ≤ 100) : ∃ y : FV k, y.isFin = true ∧ y.val = (n : Rat) * p2 e := by
  obtain ⟨r, hr, hv⟩ := dyadic_float k h h1 h2
  refine ⟨ofRung k (decide (n < 0)) r, by rw [ofRung_fin]; exact decide_eq_true hr, ?_⟩
  rw [ofRung_val k _ hr, hv, int_cast_natAbs]
  have := sg_sq (decide (n < 0))
  grind

end FV
end Go
