/- Floats as rational numbers, II: the value of a float; what the operations make of values; comparisons. -/
import Derived.Test.YteeficdlpoladaaFc
namespace Go
namespace FV
variable {k : FloatKind}

def sg (s : Bool) : Rat := if s then -1 else 1
theorem sg_cases (s : Bool) : sg s = 1 ∨ sg s = -1 := by cases s <;> simp [sg]
theorem sg_sq (s : Bool) : sg s * sg s = 1 := by cases s <;> simp only [sg] <;> grind
theorem sg_xor (s t : Bool) : sg (s ^^ t) = sg s * sg t := by cases s <;> cases t <;> simp [sg] <;> grind
theorem sg_not (s : Bool) : sg (!s) = - sg s := by cases s <;> rfl

/-- What a datum stands for; 0 for what is no number. -/
def dval : Ieee.Datum → Rat
  | .number s m e => sg s * ((m : Rat) * p2 e)
  | _ => 0
def val (x : FV k) : Rat := dval x.datum
def dfin : Ieee.Datum → Bool
  | .number .. => true
  | _ => false
def isFin (x : FV k) : Bool := dfin x.datum

theorem dval_opposite (d : Ieee.Datum) : dval d.opposite = - dval d := by
  cases d with
  | number s m e => simp only [Ieee.Datum.opposite, dval, sg_not]; grind
  | infinity => rfl
  | nan => rfl

theorem fin_number {x : FV k} (h : x.isFin = true) : ∃ s m e, x.datum = .number s m e := by
  unfold isFin at h
  cases hd : x.datum with
  | number s m e => exact ⟨s, m, e, rfl⟩
  | infinity => rw [hd] at h; cases h
  | nan => rw [hd] at h; cases h

theorem fin_not_nan {x : FV k} (h : x.isFin = true) : x.isNaN = false := by
  obtain ⟨s, m, e, hd⟩ := fin_number h
  unfold isNaN; rw [hd]; rfl

/-! ### Words -/
theorem binade_le_inf (k : FloatKind) : k.format.binade < k.format.infRung := by cases k <;> decide
theorem width_eq (k : FloatKind) : 2 ^ k.format.width = 2 * k.format.signWeight := by cases k <;> rfl

def rdatum (k : FloatKind) (s : Bool) (r : Nat) : Ieee.Datum :=
  if r < k.format.binade then .number s r k.format.leastPlace
  else if r < k.format.infRung then .number s (k.format.binade + r % k.format.binade) (k.format.leastPlace + (r / k.format.binade - 1 : Nat))
  else .infinity s

theorem word_parts (k : FloatKind) (s : Bool) {r : Nat} (h : r < k.format.signWeight) : k.format.word s r % k.format.signWeight = r ∧ (k.format.word s r / k.format.signWeight % 2 == 1) = s := by
  have hs : 0 < k.format.signWeight := Nat.two_pow_pos _
  unfold Ieee.Format.word
  cases s
  · simp only [Bool.false_eq_true, if_false]
    exact ⟨Nat.mod_eq_of_lt h, by rw [Nat.div_eq_of_lt h]; rfl⟩
  · simp only [if_true]
    exact ⟨by rw [Nat.add_mod_left]; exact Nat.mod_eq_of_lt h, by rw [Nat.add_div_left _ hs, Nat.div_eq_of_lt h]; rfl⟩

theorem read_word (k : FloatKind) (s : Bool) {r : Nat} (h : r ≤ k.format.infRung) : k.format.read (k.format.word s r) = rdatum k s r := by
  have hi := k.format.infRung_lt
  obtain ⟨h1, h2⟩ := word_parts k s (show r < k.format.signWeight by omega)
  unfold Ieee.Format.read rdatum
  simp only [h1, h2]
  split
  · rfl
  · split
    · rfl
    · rw [if_pos (by omega)]

theorem dval_rdatum (k : FloatKind) (s : Bool) {r : Nat} (h : r < k.format.infRung) : dval (rdatum k s r) = sg s * rv k.format r := by
  unfold rdatum rv
  split
  · rfl
  · rfl

theorem dfin_rdatum (k : FloatKind) (s : Bool) (r : Nat) : dfin (rdatum k s r) = decide (r < k.format.infRung) := by
  have hb := binade_le_inf k
  unfold rdatum
  by_cases h1 : r < k.format.binade
  · rw [if_pos h1]; simp [dfin, show r < k.format.infRung by omega]
  · rw [if_neg h1]
    by_cases h2 : r < k.format.infRung
    · rw [if_pos h2]; simp [dfin, h2]
    · rw [if_neg h2]; simp [dfin, h2]

/-- The float of a sign and a rung (up to infinity). -/
def ofRung (k : FloatKind) (s : Bool) (r : Nat) : FV k := of k (k.format.word s (min r k.format.infRung))

theorem ofRung_datum (k : FloatKind) (s : Bool) (r : Nat) : (ofRung k s r).datum = rdatum k s (min r k.format.infRung) := by
  have h := Nat.min_le_right r k.format.infRung
  have hn : (k.format.read (k.format.word s (min r k.format.infRung))).isNaN = false := write_not_nan _ _ _ h
  unfold ofRung
  rw [datum_of hn, read_word k s h]

theorem ofRung_fin (k : FloatKind) (s : Bool) (r : Nat) : (ofRung k s r).isFin = decide (r < k.format.infRung) := by
  unfold isFin
  rw [ofRung_datum, dfin_rdatum, decide_eq_decide]
  omega

theorem ofRung_val (k : FloatKind) (s : Bool) {r : Nat} (h : r < k.format.infRung) : (ofRung k s r).val = sg s * rv k.format r := by
  unfold val
  rw [ofRung_datum, Nat.min_eq_left (by omega), dval_rdatum k s h]

theorem ofRung_b (k : FloatKind) (s : Bool) {r : Nat} (h : r ≤ k.format.infRung) : (ofRung k s r).b = k.format.word s r := by
  have hi := k.format.infRung_lt
  unfold ofRung
  rw [Nat.min_eq_left h, of_num (write_not_nan _ _ _ h)]
  exact Nat.mod_eq_of_lt (k.format.word_lt s (by omega))

/-- Every float that is no not-a-number has a sign and a rung. -/
theorem rung_of {x : FV k} (h : x.isNaN = false) : ∃ s r, r ≤ k.format.infRung ∧ x = ofRung k s r := by
  have hs : 0 < k.format.signWeight := Nat.two_pow_pos _
  have hw := width_eq k
  have hb := x.bnd
  have hr : x.b % k.format.signWeight ≤ k.format.infRung := by
    apply Classical.byContradiction
    intro hn
    unfold isNaN datum Ieee.Format.read at h
    have := binade_le_inf k
    simp only at h
    rw [if_neg (by omega), if_neg (by omega), if_neg (by omega)] at h
    cases h
  refine ⟨decide (k.format.signWeight ≤ x.b), x.b % k.format.signWeight, hr, FV.ext ?_⟩
  rw [ofRung_b k _ hr]
  unfold Ieee.Format.word
  by_cases hx : k.format.signWeight ≤ x.b
  · have h1 : x.b % k.format.signWeight = x.b - k.format.signWeight := by
      rw [Nat.mod_eq_sub_mod hx]; exact Nat.mod_eq_of_lt (by omega)
    simp only [hx, decide_true, if_true]
    omega
  · simp only [hx, decide_false, Bool.false_eq_true, if_false]
    exact (Nat.mod_eq_of_lt (by omega)).symm

theorem fin_rung {x : FV k} (h : x.isFin = true) : ∃ s r, r < k.format.infRung ∧ x = ofRung k s r ∧ x.val = sg s * rv k.format r := by
  obtain ⟨s, r, hr, rfl⟩ := rung_of (fin_not_nan h)
  rw [ofRung_fin] at h
  have h := of_decide_eq_true h
  exact ⟨s, r, h, rfl, ofRung_val k s h⟩

/-! ### Rounding -/
/-- x is what q is rounded to: no float lies between (up to infinity). -/
def Rounds (x : FV k) (q : Rat) : Prop :=
  ∃ s R a, q = sg s * a ∧ 0 ≤ a ∧ x = ofRung k s R ∧ (∀ r, a ≤ rv k.format r → R ≤ r) ∧ (∀ r, rv k.format r ≤ a → r ≤ R)

theorem nearest_rounds (k : FloatKind) (s : Bool) (mag : Nat) (place : Int) : Rounds (of k (k.format.nearest s mag place)) (sg s * ((mag : Rat) * p2 place)) := by
  by_cases h : mag = 0
  · subst h
    refine ⟨s, 0, 0, by simp, Rat.le_refl, ?_, fun r _ => Nat.zero_le _, fun r hr => ?_⟩
    · unfold ofRung Ieee.Format.nearest
      rw [if_pos rfl, Nat.zero_min]
    · rw [← rv_zero k.format, rv_le_iff] at hr
      exact hr
  · refine ⟨s, rungOf k.format mag place, _, rfl, ?_, ?_, fun r hr => rungOf_le _ h hr, fun r hr => le_rungOf _ h hr⟩
    · exact Rat.mul_nonneg Rat.natCast_nonneg (Rat.le_of_lt (p2_pos _))
    · unfold ofRung
      rw [nearest_eq _ _ _ h]

theorem Rounds.val_fin {x : FV k} {q : Rat} (h : Rounds x q) {r : Nat} (hr : r < k.format.infRung) (h1 : q ≤ rv k.format r) (h2 : - rv k.format r ≤ q) : x.isFin = true := by
  obtain ⟨s, R, a, rfl, ha, rfl, hle, hge⟩ := h
  rw [ofRung_fin]
  have : a ≤ rv k.format r := by rcases sg_cases s with e | e <;> rw [e] at h1 h2 <;> grind
  have := hle r this
  simp; omega

/-- Rounding is monotone, against what can be written. -/
theorem Rounds.le {x y : FV k} {q : Rat} (h : Rounds x q) (hx : x.isFin = true) (hy : y.isFin = true) (hq : q ≤ y.val) : x.val ≤ y.val := by
  obtain ⟨s, R, a, rfl, ha, rfl, hle, hge⟩ := h
  obtain ⟨t, r, hr, rfl, hv⟩ := fin_rung hy
  rw [ofRung_fin] at hx
  have hR : R < k.format.infRung := of_decide_eq_true hx
  rw [hv] at hq ⊢
  rw [ofRung_val k s hR]
  have hn := rv_nonneg k.format R
  have hn' := rv_nonneg k.format r
  cases s <;> cases t <;> simp only [sg, Bool.false_eq_true, if_false, if_true] at *
  · have := rv_mono k.format (hle r (by grind)); grind
  · -- 0 ≤ a ≤ - rv r
    have ha0 : a = 0 := by grind
    have := rv_mono k.format (hle 0 (by rw [rv_zero, ha0]; exact Rat.le_refl))
    rw [rv_zero] at this
    grind
  · grind
  · have := rv_mono k.format (hge r (by grind)); grind

theorem Rounds.ge {x y : FV k} {q : Rat} (h : Rounds x q) (hx : x.isFin = true) (hy : y.isFin = true) (hq : y.val ≤ q) : y.val ≤ x.val := by
  obtain ⟨s, R, a, rfl, ha, rfl, hle, hge⟩ := h
  obtain ⟨t, r, hr, rfl, hv⟩ := fin_rung hy
  rw [ofRung_fin] at hx
  have hR : R < k.format.infRung := of_decide_eq_true hx
  rw [hv] at hq ⊢
  rw [ofRung_val k s hR]
  have hn := rv_nonneg k.format R
  have hn' := rv_nonneg k.format r
  cases s <;> cases t <;> simp only [sg, Bool.false_eq_true, if_false, if_true] at *
  · have := rv_mono k.format (hge r (by grind)); grind
  · grind
  · have ha0 : a = 0 := by grind
    have := rv_mono k.format (hle 0 (by rw [rv_zero, ha0]; exact Rat.le_refl))
    rw [rv_zero] at this
    grind
  · have := rv_mono k.format (hle r (by grind)); grind

/-- What lies between two floats is rounded to a float between them. -/
theorem Rounds.between {x y z : FV k} {q : Rat} (h : Rounds x q) (hy : y.isFin = true) (hz : z.isFin = true) (h1 : y.val ≤ q) (h2 : q ≤ z.val) : x.isFin = true ∧ y.val ≤ x.val ∧ x.val ≤ z.val := by
  have hx : x.isFin = true := by
    obtain ⟨t, r, hr, -, hv⟩ := fin_rung hy
    obtain ⟨t', r', hr', -, hv'⟩ := fin_rung hz
    have hm : max r r' < k.format.infRung := by omega
    have m1 := rv_mono k.format (Nat.le_max_left r r')
    have m2 := rv_mono k.format (Nat.le_max_right r r')
    have n1 := rv_nonneg k.format r
    have n2 := rv_nonneg k.format r'
    refine h.val_fin hm ?_ ?_
    · rcases sg_cases t' with e | e <;> rw [e] at hv' <;> grind
    · rcases sg_cases t with e | e <;> rw [e] at hv <;> grind
  exact ⟨hx, h.ge hx hy h1, h.le hx hz h2⟩

theorem Rounds.exact {x y : FV k} {q : Rat} (h : Rounds x q) (hy : y.isFin = true) (hq : q = y.val) : x.isFin = true ∧ x.val = y.val := by
  obtain ⟨h1, h2, h3⟩ := h.between hy hy (by rw [hq]; exact Rat.le_refl) (by rw [hq]; exact Rat.le_refl)
  exact ⟨h1, Rat.le_antisymm h3 h2⟩

/-- A float other than 0 is known by its value. -/
theorem eq_of_val {x y : FV k} (hx : x.isFin = true) (hy : y.isFin = true) (h : x.val = y.val) (h0 : x.val ≠ 0) : x = y := by
  obtain ⟨s, r, hr, rfl, hv⟩ := fin_rung hx
  obtain ⟨t, r', hr', rfl, hv'⟩ := fin_rung hy
  rw [hv] at h h0
  rw [hv'] at h
  have n1 := rv_nonneg k.format r
  have n2 := rv_nonneg k.format r'
  have hst : s = t ∧ rv k.format r = rv k.format r' := by
    cases s <;> cases t <;> simp only [sg, Bool.false_eq_true, if_false, if_true] at * <;> refine ⟨?_, ?_⟩ <;> grind
  obtain ⟨rfl, h2⟩ := hst
  have h3 := (rv_le_iff k.format).1 (by rw [h2]; exact Rat.le_refl : rv k.format r ≤ rv k.format r')
  have h4 := (rv_le_iff k.format).1 (by rw [h2]; exact Rat.le_refl : rv k.format r' ≤ rv k.format r)
  rw [show r = r' by omega]

end FV
end Go
