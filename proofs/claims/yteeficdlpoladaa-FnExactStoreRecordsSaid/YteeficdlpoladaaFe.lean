/- Floats as rational numbers, III: + - * /, conversions, the opposite, comparisons. -/
import Derived.Test.YteeficdlpoladaaFd
namespace Go
namespace FV
variable {k : FloatKind}

theorem int_cast_natAbs (n : Int) : ((n.natAbs : Nat) : Rat) = sg (decide (n < 0)) * (n : Rat) := by
  by_cases h : n < 0
  · have e : (n.natAbs : Int) = -n := by omega
    have : ((n.natAbs : Nat) : Rat) = (((n.natAbs : Nat) : Int) : Rat) := (Rat.intCast_natCast _).symm
    rw [this, e, Rat.intCast_neg]
    simp only [h, decide_true, sg, if_true]; grind
  · have e : (n.natAbs : Int) = n := by omega
    have : ((n.natAbs : Nat) : Rat) = (((n.natAbs : Nat) : Int) : Rat) := (Rat.intCast_natCast _).symm
    rw [this, e]
    simp only [h, decide_false, sg, Bool.false_eq_true, if_false]; grind

theorem signed_val (s : Bool) (m : Nat) {i base : Int} (h : base ≤ i) : ((Ieee.signed s m (i - base).toNat : Int) : Rat) * p2 base = dval (.number s m i) := by
  have e : p2 ((i - base).toNat : Int) * p2 base = p2 i := by rw [← p2_add]; congr 1; omega
  have h1 : (((m <<< (i - base).toNat : Nat) : Int) : Rat) * p2 base = (m : Rat) * p2 i := by
    rw [Rat.intCast_natCast, Nat.shiftLeft_eq, Rat.natCast_mul, ← p2_nat]
    grind
  unfold Ieee.signed dval
  cases s
  · simp only [Bool.false_eq_true, if_false, sg]; grind
  · simp only [if_true, sg, Rat.intCast_neg]; grind

/-- The sum of two numbers. -/
theorem sum_val (s t : Bool) (m n : Nat) (i j : Int) : ∃ u mag place, (Ieee.Datum.number s m i).sum (.number t n j) = some (.number u mag place) ∧ sg u * ((mag : Rat) * p2 place) = dval (.number s m i) + dval (.number t n j) := by
  refine ⟨_, _, _, rfl, ?_⟩
  have h1 := signed_val s m (Int.min_le_left i j)
  have h2 := signed_val t n (Int.min_le_right i j)
  generalize Ieee.signed s m (i - min i j).toNat = a at *
  generalize Ieee.signed t n (j - min i j).toNat = b at *
  rw [← h1, ← h2, int_cast_natAbs, Rat.intCast_add]
  by_cases h0 : a + b = 0
  · have e : ((a : Rat) + (b : Rat)) = 0 := by rw [← Rat.intCast_add, h0]; rfl
    rw [e]; grind
  · rw [if_neg h0]
    have := sg_sq (decide (a + b < 0))
    grind

theorem bin_of_map {op : BinOp} {x y : FV k} {d : Ieee.Datum} (h : floatBits op k x.b y.b = some (k.format.write d)) : bin op x y = of k (k.format.write d) := by
  unfold bin; rw [h]

theorem add_rounds {x y : FV k} (hx : x.isFin = true) (hy : y.isFin = true) : Rounds (add x y) (x.val + y.val) := by
  obtain ⟨s, m, i, hd⟩ := fin_number hx
  obtain ⟨t, n, j, hd'⟩ := fin_number hy
  obtain ⟨u, mag, place, h1, h2⟩ := sum_val s t m n i j
  have hb : floatBits .add k x.b y.b = some (k.format.write (.number u mag place)) := by
    show ((k.format.read x.b).sum (k.format.read y.b)).map _ = _
    unfold datum at hd hd'
    rw [hd, hd', h1]; rfl
  have hr := nearest_rounds k u mag place
  rw [h2] at hr
  unfold add val
  rw [bin_of_map hb, hd, hd']
  exact hr

theorem sub_rounds {x y : FV k} (hx : x.isFin = true) (hy : y.isFin = true) : Rounds (sub x y) (x.val - y.val) := by
  obtain ⟨s, m, i, hd⟩ := fin_number hx
  obtain ⟨t, n, j, hd'⟩ := fin_number hy
  obtain ⟨u, mag, place, h1, h2⟩ := sum_val s (!t) m n i j
  have hb : floatBits .sub k x.b y.b = some (k.format.write (.number u mag place)) := by
    show ((k.format.read x.b).sum (k.format.read y.b).opposite).map _ = _
    unfold datum at hd hd'
    rw [hd, hd', show (Ieee.Datum.number t n j).opposite = .number (!t) n j from rfl, h1]; rfl
  have hr := nearest_rounds k u mag place
  rw [h2, show dval (.number (!t) n j) = - dval (.number t n j) from dval_opposite (.number t n j)] at hr
  unfold sub val
  rw [bin_of_map hb, hd, hd', Rat.sub_eq_add_neg]
  exact hr

theorem mul_rounds {x y : FV k} (hx : x.isFin = true) (hy : y.isFin = true) : Rounds (mul x y) (x.val * y.val) := by
  obtain ⟨s, m, i, hd⟩ := fin_number hx
  obtain ⟨t, n, j, hd'⟩ := fin_number hy
  have hb : floatBits .mul k x.b y.b = some (k.format.write (.number (s ^^ t) (m * n) (i + j))) := by
    show ((k.format.read x.b).product (k.format.read y.b)).map _ = _
    unfold datum at hd hd'
    rw [hd, hd']; rfl
  have hr := nearest_rounds k (s ^^ t) (m * n) (i + j)
  rw [sg_xor, Rat.natCast_mul, p2_add] at hr
  unfold mul val
  rw [bin_of_map hb, hd, hd']
  simp only [dval]
  rw [show sg s * (↑m * p2 i) * (sg t * (↑n * p2 j)) = sg s * sg t * (↑m * ↑n * (p2 i * p2 j)) by grind]
  exact hr

/-! ### Division: the quotient with one digit more, which tells whether anything is left over -/
/-- Of a magnitude between 'n' and 'n + 1' units of which the digits are enough, the rungs tell no difference from 'n + 1/2'. -/
theorem sticky (f : Ieee.Format) {q : Rat} {n : Nat} {p : Int} {rest : Bool} (hn : 2 * f.binade ≤ n)
    (h0 : rest = false → q = (n : Rat) * p2 p) (h1 : rest = true → (n : Rat) * p2 p < q ∧ q < ((n + 1 : Nat) : Rat) * p2 p) (r : Nat) :
    (q ≤ rv f r ↔ ((2 * n + rest.toNat : Nat) : Rat) * p2 (p - 1) ≤ rv f r) ∧ (rv f r ≤ q ↔ rv f r ≤ ((2 * n + rest.toNat : Nat) : Rat) * p2 (p - 1)) := by
  have e : p2 p = 2 * p2 (p - 1) := by rw [← p2_succ]; congr 1; omega
  have e2 : ((2 * n : Nat) : Rat) = 2 * (n : Rat) := by rw [Rat.natCast_mul]; rfl
  cases rest
  · have h := h0 rfl
    have : ((2 * n + false.toNat : Nat) : Rat) * p2 (p - 1) = q := by
      rw [h, show 2 * n + false.toNat = 2 * n from rfl, e2, e]; grind
    rw [this]
    exact ⟨Iff.rfl, Iff.rfl⟩
  · obtain ⟨ha, hb⟩ := h1 rfl
    have e3 : ((2 * n + true.toNat : Nat) : Rat) = 2 * (n : Rat) + 1 := by
      rw [show 2 * n + true.toNat = 2 * n + 1 from rfl, Rat.natCast_add, e2]; rfl
    have e4 : ((n + 1 : Nat) : Rat) = (n : Rat) + 1 := by rw [Rat.natCast_add]; rfl
    rw [e3]
    have hp := p2_pos (p - 1)
    -- the rung is below n units or above n + 1 of them
    have key : rv f r ≤ (n : Rat) * p2 p ∨ ((n + 1 : Nat) : Rat) * p2 p ≤ rv f r := by
      obtain ⟨d, K, rfl, hK1, hK2⟩ := rung_form f r
      rw [rv_at f d K hK1 (by omega)]
      by_cases hl : p ≤ f.leastPlace + d
      · obtain ⟨c, hc⟩ : ∃ c : Nat, f.leastPlace + (d : Int) = (c : Int) + p := ⟨(f.leastPlace + d - p).toNat, by omega⟩
        rw [hc, p2_add, p2_nat, ← Rat.mul_assoc, ← Rat.natCast_mul, mul_p2_le, mul_p2_le, nat_le, nat_le]
        omega
      · left
        have h2 : p2 (f.leastPlace + d) ≤ p2 p := p2_le (by omega)
        have h3 : (K : Rat) ≤ (n : Rat) := nat_le.2 (by omega)
        have h4 := (mul_p2_le (e := p)).2 h3
        have h5 := Rat.mul_le_mul_of_nonneg_left h2 (Rat.natCast_nonneg (a := K))
        exact Rat.le_trans h5 h4
    rw [e4] at hb key
    rw [e] at ha hb key
    rcases key with key | key
    · exact ⟨⟨fun h => by grind, fun h => by grind⟩, ⟨fun _ => by grind, fun _ => by grind⟩⟩
    · exact ⟨⟨fun _ => by grind, fun _ => by grind⟩, ⟨fun h => by grind, fun h => by grind⟩⟩

theorem natCast_div_mod (a b : Nat) : (a : Rat) = (b : Rat) * ((a / b : Nat) : Rat) + ((a % b : Nat) : Rat) := by
  rw [← Rat.natCast_mul, ← Rat.natCast_add, Nat.div_add_mod]

theorem div_rounds {x y : FV k} (hx : x.isFin = true) (hy : y.isFin = true) (h0 : y.val ≠ 0) : Rounds (div x y) (x.val / y.val) := by
  obtain ⟨s, m, i, hd⟩ := fin_number hx
  obtain ⟨t, n, j, hd'⟩ := fin_number hy
  have hn : n ≠ 0 := by
    rintro rfl
    apply h0
    unfold val; rw [hd']; simp [dval]
  let more := (k.format.fractionBits + 2) + n.log2 - m.log2
  let dividend := m <<< more
  have hb : floatBits .quo k x.b y.b = some (k.format.write (.number (s ^^ t) (2 * (dividend / n) + (dividend % n != 0).toNat) (i - j - more - 1))) := by
    show ((k.format.read x.b).quotient _ (k.format.read y.b)).map _ = _
    unfold datum at hd hd'
    rw [hd, hd']
    simp only [Ieee.Datum.quotient]
    rw [if_neg hn]
    rfl
  -- the quotient of the magnitudes
  have hnp : (0 : Rat) < (n : Rat) := nat_lt.2 (show 0 < n by omega)
  have hpj := p2_pos j
  have hq : x.val / y.val = sg (s ^^ t) * (((dividend : Nat) : Rat) / (n : Rat) * p2 (i - j - more)) := by
    have hy0 : (n : Rat) * p2 j ≠ 0 := fun e => by
      have := Rat.mul_pos hnp hpj
      rw [e] at this
      exact Rat.lt_irrefl this
    have hs0 : sg t ≠ 0 := by rcases sg_cases t with e | e <;> rw [e] <;> decide
    have e1 : ((dividend : Nat) : Rat) = (m : Rat) * p2 (more : Int) := by
      show ((m <<< more : Nat) : Rat) = _
      rw [Nat.shiftLeft_eq, Rat.natCast_mul, p2_nat]
    have e2 : p2 (more : Int) * p2 (i - j - more) * p2 j = p2 i := by rw [← p2_add, ← p2_add]; congr 1; omega
    unfold val
    rw [hd, hd', sg_xor, e1]
    simp only [dval]
    have hss := sg_sq t
    rw [← e2]
    grind
  by_cases hm : m = 0
  · have hd0 : dividend = 0 := by show m <<< more = 0; rw [hm]; exact Nat.zero_shiftLeft _
    have hr := nearest_rounds k (s ^^ t) (2 * (dividend / n) + (dividend % n != 0).toNat) (i - j - more - 1)
    unfold div
    rw [bin_of_map hb, hq]
    have e : sg (s ^^ t) * ((dividend : Rat) / (n : Rat) * p2 (i - j - more)) = sg (s ^^ t) * (((2 * (dividend / n) + (dividend % n != 0).toNat : Nat) : Rat) * p2 (i - j - more - 1)) := by
      rw [hd0]; simp; grind
    rw [e]
    exact hr
  · have hlog : 2 ^ (k.format.fractionBits + 1) ≤ dividend / n := by
      rw [Nat.le_div_iff_mul_le (by omega)]
      show _ ≤ m <<< more
      rw [Nat.shiftLeft_eq]
      have h1 := Nat.log2_self_le hm
      have h2 : n < 2 ^ (n.log2 + 1) := Nat.lt_log2_self
      have h3 : 2 ^ (k.format.fractionBits + 1) * 2 ^ (n.log2 + 1) ≤ 2 ^ m.log2 * 2 ^ more := by
        rw [← Nat.pow_add, ← Nat.pow_add]
        exact Nat.pow_le_pow_right (by decide) (by show _ ≤ m.log2 + (k.format.fractionBits + 2 + n.log2 - m.log2); omega)
      have h4 := Nat.mul_le_mul_right (2 ^ more) h1
      have h5 := Nat.mul_le_mul_left (2 ^ (k.format.fractionBits + 1)) (Nat.le_of_lt h2)
      omega
    have hbin : 2 * k.format.binade ≤ dividend / n := by
      rw [Nat.pow_succ, Nat.mul_comm] at hlog
      exact hlog
    have hdm := natCast_div_mod dividend n
    have hp := p2_pos (i - j - more)
    have hst := sticky k.format (q := (dividend : Rat) / (n : Rat) * p2 (i - j - more)) (n := dividend / n) (p := i - j - more) (rest := (dividend % n != 0)) hbin
      (fun h => by
        have : dividend % n = 0 := by simpa using h
        rw [this] at hdm
        have : (dividend : Rat) / (n : Rat) = ((dividend / n : Nat) : Rat) := by
          rw [hdm]
          have : ((0 : Nat) : Rat) = 0 := rfl
          grind
        rw [this])
      (fun h => by
        have h6 : dividend % n ≠ 0 := by simpa using h
        have h7 := Nat.mod_lt dividend (show 0 < n by omega)
        have h8 : (0 : Rat) < ((dividend % n : Nat) : Rat) := nat_lt.2 (show 0 < dividend % n by omega)
        have h9 : ((dividend % n : Nat) : Rat) < (n : Rat) := nat_lt.2 h7
        rw [mul_p2_lt, mul_p2_lt, Rat.lt_div_iff hnp, Rat.div_lt_iff hnp]
        have e4 : ((dividend / n + 1 : Nat) : Rat) = ((dividend / n : Nat) : Rat) + 1 := by rw [Rat.natCast_add]; rfl
        rw [e4]
        constructor <;> grind)
    have hb0 := binade_pos k.format
    have hm0 : 2 * (dividend / n) + (dividend % n != 0).toNat ≠ 0 := by omega
    unfold div
    rw [bin_of_map hb, hq]
    refine ⟨s ^^ t, rungOf k.format (2 * (dividend / n) + (dividend % n != 0).toNat) (i - j - more - 1), _, rfl, ?_, ?_, fun r hr => rungOf_le _ hm0 ((hst r).1.1 hr), fun r hr => le_rungOf _ hm0 ((hst r).2.1 hr)⟩
    · refine Rat.mul_nonneg ?_ (Rat.le_of_lt hp)
      rw [Rat.div_def]
      exact Rat.mul_nonneg Rat.natCast_nonneg (Rat.le_of_lt (Rat.inv_pos.2 hnp))
    · unfold ofRung
      show of k (k.format.nearest _ _ _) = _
      rw [nearest_eq _ _ _ hm0]

end FV
end Go
