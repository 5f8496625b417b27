/- The sign of a widened float; two floats are one where they compare equal and have one sign. -/
import Derived.Test.YteeficdlpoladaaFh
namespace Go
namespace FV

def signOf {k : FloatKind} (x : FV k) : Bool := decide (k.format.signWeight ≤ x.b)

theorem sign_word (k : FloatKind) (s : Bool) {r : Nat} (h : r ≤ k.format.infRung) : decide (k.format.signWeight ≤ k.format.word s r) = s := by
  have hi := k.format.infRung_lt
  unfold Ieee.Format.word
  cases s
  · simp only [Bool.false_eq_true, if_false, decide_eq_false_iff_not]; omega
  · simp only [if_true, decide_eq_true_eq]; omega

theorem sign_ofRung (k : FloatKind) (s : Bool) {r : Nat} (h : r ≤ k.format.infRung) : signOf (ofRung k s r) = s := by
  unfold signOf
  rw [ofRung_b k s h, sign_word k s h]

def dsign : Ieee.Datum → Bool
  | .number s .. => s
  | .infinity s => s
  | .nan s _ => s

theorem dsign_rdatum (k : FloatKind) (s : Bool) (r : Nat) : dsign (rdatum k s r) = s := by
  unfold rdatum; split
  · rfl
  · split <;> rfl

theorem sign_write (k : FloatKind) {d : Ieee.Datum} (h : d.isNaN = false) : decide (k.format.signWeight ≤ k.format.write d) = dsign d := by
  cases d with
  | number s m p =>
    show decide (k.format.signWeight ≤ k.format.nearest s m p) = s
    by_cases hm : m = 0
    · subst hm
      have e : k.format.nearest s 0 p = k.format.word s 0 := by unfold Ieee.Format.nearest; rw [if_pos rfl]
      rw [e]; exact sign_word k s (Nat.zero_le _)
    · rw [nearest_eq _ _ _ hm]
      exact sign_word k s (Nat.min_le_right ..)
  | infinity s => exact sign_word k s (Nat.le_refl _)
  | nan s f => cases h

theorem sign_conv {k k' : FloatKind} {x : FV k} (h : x.isNaN = false) : signOf (conv k' x) = signOf x := by
  have h' : x.datum.isNaN = false := h
  have e : (conv k' x).b = k'.format.write x.datum := by
    unfold conv
    rw [if_neg (by rw [h]; simp), of_num (write_number_not_nan _ h')]
    exact Nat.mod_eq_of_lt (k'.format.write_lt _)
  obtain ⟨s, r, hr, rfl⟩ := rung_of h
  have hd : (ofRung k s r).datum = rdatum k s r := by rw [ofRung_datum, Nat.min_eq_left hr]
  rw [sign_ofRung k s hr]
  unfold signOf
  rw [e, hd, sign_write k' (by rw [← hd]; exact h'), dsign_rdatum]

theorem rv_inj (f : Ieee.Format) {r u : Nat} (h : rv f r = rv f u) : r = u := by
  rcases Nat.lt_trichotomy r u with h1 | h1 | h1
  · have := rv_lt f h1; rw [h] at this; exact absurd this (Rat.lt_irrefl)
  · exact h1
  · have := rv_lt f h1; rw [h] at this; exact absurd this (Rat.lt_irrefl)

theorem inf_rung {k : FloatKind} (s : Bool) : (ofRung k s k.format.infRung).datum = .infinity s := by
  rw [ofRung_datum, Nat.min_self]
  unfold rdatum
  have := binade_le_inf k
  rw [if_neg (by omega), if_neg (by omega)]

/-- Equal and of one sign: the same. -/
theorem same_iff {k : FloatKind} {x y : FV k} (hx : x.isNaN = false) (hy : y.isNaN = false) : (FV.cmp x y == some .eq && signOf x == signOf y) = decide (x = y) := by
  rw [Bool.eq_iff_iff, decide_eq_true_eq, Bool.and_eq_true, beq_iff_eq, beq_iff_eq]
  constructor
  · rintro ⟨hc, hs⟩
    obtain ⟨s, r, hr, rfl⟩ := rung_of hx
    obtain ⟨t, u, hu, rfl⟩ := rung_of hy
    rw [sign_ofRung k s hr, sign_ofRung k t hu] at hs
    subst hs
    by_cases h1 : r < k.format.infRung
    · by_cases h2 : u < k.format.infRung
      · have f1 : (ofRung k s r).isFin = true := by rw [ofRung_fin]; simpa using h1
        have f2 : (ofRung k s u).isFin = true := by rw [ofRung_fin]; simpa using h2
        have he := (eq_iff f1 f2).1 (by unfold FV.eq; rw [hc]; rfl)
        rw [ofRung_val k s h1, ofRung_val k s h2] at he
        have : rv k.format r = rv k.format u := by
          have h3 : sg s * (sg s * rv k.format r) = sg s * (sg s * rv k.format u) := by rw [he]
          rw [← Rat.mul_assoc, ← Rat.mul_assoc, sg_sq, Rat.one_mul, Rat.one_mul] at h3
          exact h3
        rw [rv_inj _ this]
      · obtain rfl : u = k.format.infRung := by omega
        rw [cmp_datum, inf_rung] at hc
        obtain ⟨s', m, e, hd⟩ := fin_number (x := ofRung k s r) (by rw [ofRung_fin]; simpa using h1)
        rw [hd] at hc
        cases s <;> simp [Ieee.Datum.order] at hc
    · obtain rfl : r = k.format.infRung := by omega
      by_cases h2 : u < k.format.infRung
      · rw [cmp_datum, inf_rung] at hc
        obtain ⟨s', m, e, hd⟩ := fin_number (x := ofRung k s u) (by rw [ofRung_fin]; simpa using h2)
        rw [hd] at hc
        cases s <;> simp [Ieee.Datum.order] at hc
      · obtain rfl : u = k.format.infRung := by omega
        rfl
  · rintro rfl
    exact ⟨cmp_self hx, rfl⟩

/-- Two floats are the same where their bits are. -/
def sameF {k : FloatKind} (x y : FV k) : Bool := x.b == y.b
theorem sameF_eq {k : FloatKind} (x y : FV k) : sameF x y = decide (x = y) := by
  unfold sameF
  rw [Bool.eq_iff_iff, beq_iff_eq, decide_eq_true_eq]
  exact ⟨FV.ext, fun h => by rw [h]⟩

end FV
end Go
