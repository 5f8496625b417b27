/- The walks: LogNumber and the reference's logarithm give one number. -/
import Derived.Test.YtnpgpkbnfibkkaaGb
namespace Go.Proofs.Ytnpgpkbnfibkkaa
open Go.RowKit Go.FV

theorem cmp_conv (x : FV .f32) : FV.cmp (conv .f64 x) (of .f64 0) = FV.cmp x (of .f32 0) := by
  have z32 := zero_fin .f32
  have z64 := zero_fin .f64
  rcases trichotomy x with ⟨h1, -, -⟩ | ⟨h1, h2, -⟩ | ⟨h1, h2, h3⟩
  · obtain ⟨a, b⟩ := widen_exact h1
    rw [cmp_fin a z64.1, cmp_fin h1 z32.1, b, z64.2, z32.2]
  · rw [cmp_nan_left (by rw [isNaN_conv]; exact h2), cmp_nan_left h2]
  · obtain ⟨s, hs⟩ := inf_datum h3
    have hc : (conv .f64 x).datum = .infinity s := by
      unfold conv; rw [if_neg (by rw [h2]; simp), hs]
      cases s <;> decide
    rw [cmp_datum, cmp_datum, hs, hc]
    rfl

/-- A positive float32 as a float64 is a normal number. -/
theorem conv_pos {x : FV .f32} (h : x.isFin = true) (h0 : 0 < x.val) : ∃ b, 4503599627370496 ≤ b ∧ b < 9218868437227405312 ∧ conv .f64 x = wd b := by
  obtain ⟨a, b⟩ := widen_exact h
  obtain ⟨s, r, hr, hx, hv⟩ := fin_rung a
  obtain ⟨s', r', hr', hx', hv'⟩ := fin_rung h
  have n1 := rv_nonneg FloatKind.f64.format r
  have n2 := rv_nonneg FloatKind.f32.format r'
  have hs : s = false := by
    cases s
    · rfl
    · rw [b] at hv; simp only [sg, if_true] at hv; grind
  have hs' : s' = false := by
    cases s'
    · rfl
    · simp only [sg, if_true] at hv'; grind
  subst hs; subst hs'
  simp only [sg, Bool.false_eq_true, if_false] at hv hv'
  have hr0 : 1 ≤ r' := by
    apply Classical.byContradiction; intro hn
    obtain rfl : r' = 0 := by omega
    rw [rv_zero] at hv'; grind
  have h1 := rv_mono FloatKind.f32.format hr0
  have h2 : rv FloatKind.f32.format 1 = p2 (-149) := by
    have := rv_at FloatKind.f32.format 0 1 (.inr rfl) (by decide)
    rw [show 0 * FloatKind.f32.format.binade + 1 = 1 by decide] at this
    rw [this, show (FloatKind.f32.format.leastPlace + ((0 : Nat) : Int)) = -149 by decide]
    grind
  have h3 : rv FloatKind.f64.format 4503599627370496 = p2 (-1022) := by
    have := rv_at FloatKind.f64.format 0 4503599627370496 (.inr rfl) (by decide)
    rw [show 0 * FloatKind.f64.format.binade + 4503599627370496 = 4503599627370496 by decide, show (FloatKind.f64.format.leastPlace + ((0 : Nat) : Int)) = -1074 by decide, show ((4503599627370496 : Nat) : Rat) = p2 52 by rw [show (52 : Int) = ((52 : Nat) : Int) from rfl, p2_nat], ← p2_add] at this
    exact this
  have h4 : p2 (-1022) ≤ p2 (-149) := p2_le (by decide)
  refine ⟨r, ?_, hr, ?_⟩
  · rw [← rv_le_iff FloatKind.f64.format, h3]; grind
  · rw [hx, wd_rung (by omega)]

def logF (x : FV .f32) : FV .f32 :=
  if x.isNaN = true then nan .f32
  else if FV.lt x (of .f32 0) = true then nan .f32
  else if FV.eq x (of .f32 0) = true then conv .f32 minusInf
  else if x.isFin = false then x
  else conv .f32 (logV (conv .f64 x))

/-- The five cases of an argument. -/
theorem log_cases (x : FV .f32) :
    (x.isNaN = true) ∨ (x.isNaN = false ∧ FV.lt x (of .f32 0) = true) ∨ (x.isNaN = false ∧ FV.lt x (of .f32 0) = false ∧ FV.eq x (of .f32 0) = true) ∨
    (x.isNaN = false ∧ FV.lt x (of .f32 0) = false ∧ FV.eq x (of .f32 0) = false ∧ x.isFin = false ∧ x.datum = .infinity false) ∨
    (x.isNaN = false ∧ FV.lt x (of .f32 0) = false ∧ FV.eq x (of .f32 0) = false ∧ x.isFin = true ∧ 0 < x.val) := by
  have z32 := zero_fin .f32
  rcases trichotomy x with ⟨h1, h2, -⟩ | ⟨-, h2, -⟩ | ⟨h1, h2, h3⟩
  · right
    cases hl : FV.lt x (of .f32 0)
    · right
      cases he : FV.eq x (of .f32 0)
      · right; right
        refine ⟨h2, rfl, rfl, h1, ?_⟩
        have a := lt_iff h1 z32.1
        have b := eq_iff h1 z32.1
        rw [hl, z32.2] at a
        rw [he, z32.2] at b
        have a' : ¬ x.val < 0 := fun h => by have := a.2 h; cases this
        have b' : ¬ x.val = 0 := fun h => by have := b.2 h; cases this
        grind
      · exact .inl ⟨h2, rfl, rfl⟩
    · exact .inl ⟨h2, rfl⟩
  · exact .inl h2
  · obtain ⟨s, hs⟩ := inf_datum h3
    obtain ⟨t, m, e, hd⟩ := fin_number z32.1
    have hc : FV.cmp x (of .f32 0) = some (if s then .lt else .gt) := by rw [cmp_datum, hs, hd]; rfl
    cases s
    · refine .inr (.inr (.inr (.inl ⟨h2, ?_, ?_, h1, hs⟩)))
      · unfold FV.lt; rw [hc]; rfl
      · unfold FV.eq; rw [hc]; rfl
    · exact .inr (.inl ⟨h2, by unfold FV.lt; rw [hc]; rfl⟩)

theorem logWide_nan (y : FV .f64) (h : y.isNaN = true) (i : Nat) (w : World) (m : Nat) : Calls Try.prog 101 #[.float .f64 (y.fl i)] (w.drewN m) (RetF (nan .f64) w) := by
  have g1 : (FV.cmp y y != some .eq) = true := by rw [isNaN_eq]; exact h
  go_enter Try.func101, Try.ntmps101
  go_wp2_with (go_at_call 102; refine (nan_any _ _).mono ?_; rintro e w' ⟨j, n, rfl, rfl⟩)
  go_ret
  exact ⟨_, _, rfl, rfl⟩

theorem logWide_neg (y : FV .f64) (h : y.isNaN = false) (h1 : (FV.cmp y (of .f64 0) == some .lt) = true) (i : Nat) (w : World) (m : Nat) : Calls Try.prog 101 #[.float .f64 (y.fl i)] (w.drewN m) (RetF (nan .f64) w) := by
  have g1 : (FV.cmp y y != some .eq) = false := by rw [isNaN_eq]; exact h
  go_enter Try.func101, Try.ntmps101
  go_wp2_with (go_at_call 102; refine (nan_any _ _).mono ?_; rintro e w' ⟨j, n, rfl, rfl⟩)
  go_ret
  exact ⟨_, _, rfl, rfl⟩

theorem logWide_zero (y : FV .f64) (h : y.isNaN = false) (h1 : (FV.cmp y (of .f64 0) == some .lt) = false) (h2 : (FV.cmp y (of .f64 0) == some .eq) = true) (i : Nat) (w : World) (m : Nat) : Calls Try.prog 101 #[.float .f64 (y.fl i)] (w.drewN m) (RetF minusInf w) := by
  have g1 : (FV.cmp y y != some .eq) = false := by rw [isNaN_eq]; exact h
  go_enter Try.func101, Try.ntmps101
  go_wp2_with (go_at_call 100; refine (inf_any _ _).mono ?_; rintro e w' ⟨j, n, rfl, rfl⟩)
  go_ret
  exact ⟨_, _, rfl, rfl⟩

theorem logWide_inf (y : FV .f64) (h : y.isNaN = false) (h1 : (FV.cmp y (of .f64 0) == some .lt) = false) (h2 : (FV.cmp y (of .f64 0) == some .eq) = false) (h3 : (y.datum == .infinity false) = true) (i : Nat) (w : World) (m : Nat) : Calls Try.prog 101 #[.float .f64 (y.fl i)] (w.drewN m) (RetF y w) := by
  have g1 : (FV.cmp y y != some .eq) = false := by rw [isNaN_eq]; exact h
  go_enter Try.func101, Try.ntmps101
  go_wp2_with (go_at_call 116; refine (isInf1_any _ _ _ _).mono ?_; rintro e w' ⟨n, rfl, rfl⟩)
  go_ret
  exact ⟨_, _, rfl, rfl⟩

/-- What the wide logarithm of a float32 is. -/
def logW (x : FV .f32) : FV .f64 :=
  if x.isNaN = true then nan .f64
  else if FV.lt x (of .f32 0) = true then nan .f64
  else if FV.eq x (of .f32 0) = true then minusInf
  else if x.isFin = false then conv .f64 x
  else logV (conv .f64 x)

theorem logWide_any (x : FV .f32) (i : Nat) (w : World) (m : Nat) : Calls Try.prog 101 #[.float .f64 ((conv .f64 x).fl i)] (w.drewN m) (RetF (logW x) w) := by
  have hn := isNaN_conv .f64 x
  have hc := cmp_conv x
  rcases log_cases x with h | ⟨h, h1⟩ | ⟨h, h1, h2⟩ | ⟨h, h1, h2, h3, h4⟩ | ⟨h, h1, h2, h3, h4⟩
  · unfold logW; rw [if_pos h]
    exact logWide_nan _ (by rw [hn]; exact h) i w m
  · unfold logW; rw [if_neg (by rw [h]; simp), if_pos h1]
    exact logWide_neg _ (by rw [hn]; exact h) (by rw [hc]; exact h1) i w m
  · unfold logW; rw [if_neg (by rw [h]; simp), if_neg (by rw [h1]; simp), if_pos h2]
    exact logWide_zero _ (by rw [hn]; exact h) (by rw [hc]; exact h1) (by rw [hc]; exact h2) i w m
  · unfold logW; rw [if_neg (by rw [h]; simp), if_neg (by rw [h1]; simp), if_neg (by rw [h2]; simp), if_pos h3]
    refine logWide_inf _ (by rw [hn]; exact h) (by rw [hc]; exact h1) (by rw [hc]; exact h2) ?_ i w m
    unfold conv; rw [if_neg (by rw [h]; simp), h4]
    decide
  · unfold logW; rw [if_neg (by rw [h]; simp), if_neg (by rw [h1]; simp), if_neg (by rw [h2]; simp), if_neg (by rw [h3]; simp)]
    obtain ⟨b, hb1, hb2, hb3⟩ := conv_pos h3 h4
    rw [hb3]
    exact logWide_pos b hb1 hb2 i w m

theorem logF_pos {x : FV .f32} (h : x.isFin = true) (h0 : 0 < x.val) : Bd (logV (conv .f64 x)) 2126 := by
  obtain ⟨b, hb1, hb2, hb3⟩ := conv_pos h h0
  have e : (wd b).b = b := by rw [wd_rung (by rw [f64_inf]; omega), ofRung_b _ _ (by rw [f64_inf]; omega)]; rfl
  rw [hb3]
  exact logV_bd (by rw [e]; exact hb1) (by rw [e]; exact hb2)

theorem fits_logW (x : FV .f32) : fits .f32 (logW x) = true := by
  unfold logW
  rcases log_cases x with h | ⟨h, h1⟩ | ⟨h, h1, h2⟩ | ⟨h, h1, h2, h3, h4⟩ | ⟨h, h1, h2, h3, h4⟩
  · rw [if_pos h]; decide
  · rw [if_neg (by rw [h]; simp), if_pos h1]; decide
  · rw [if_neg (by rw [h]; simp), if_neg (by rw [h1]; simp), if_pos h2]; decide
  · rw [if_neg (by rw [h]; simp), if_neg (by rw [h1]; simp), if_neg (by rw [h2]; simp), if_pos h3]
    unfold conv; rw [if_neg (by rw [h]; simp), h4]
    decide
  · rw [if_neg (by rw [h]; simp), if_neg (by rw [h1]; simp), if_neg (by rw [h2]; simp), if_neg (by rw [h3]; simp)]
    exact (logF_pos h3 h4).fits (by decide)

theorem conv_nan (k k' : FloatKind) : conv k' (nan k) = nan k' := by unfold conv; rw [if_pos (nan_isNaN k)]

theorem conv_logW (x : FV .f32) : conv .f32 (logW x) = logF x := by
  unfold logW logF
  rcases log_cases x with h | ⟨h, h1⟩ | ⟨h, h1, h2⟩ | ⟨h, h1, h2, h3, h4⟩ | ⟨h, h1, h2, h3, h4⟩
  · simp only [h, if_true, conv_nan]
  · simp only [h, h1, Bool.false_eq_true, if_false, if_true, conv_nan]
  · simp only [h, h1, h2, Bool.false_eq_true, if_false, if_true]
  · simp only [h, h1, h2, h3, Bool.false_eq_true, if_false, if_true]
    obtain ⟨s, r, hr, hx⟩ := rung_of h
    have : x = of .f32 2139095040 := by
      rw [hx, ofRung_datum, Nat.min_eq_left hr] at h4
      unfold rdatum at h4
      split at h4
      · cases h4
      · split at h4
        · cases h4
        · cases h4
          obtain rfl : r = FloatKind.f32.format.infRung := by omega
          rw [hx]; rfl
    rw [this]; decide +kernel
  · simp only [h, h1, h2, h3, Bool.false_eq_true, Bool.true_eq_false, if_false]

theorem l01Narrow_any (y : FV .f64) (hf : fits .f32 y = true) (i : Nat) (w : World) (m : Nat) : Calls Try.prog 96 #[.float .f64 (y.fl i)] (w.drewN m) (RetF (conv .f32 y) w) := by
  go_enter Try.func96, Try.ntmps96
  go_wp2_with (refine wp_conv (k := .f64) .f32 rfl rfl (by rw [Try.underlying26]; rfl) Try.underlying22 (by decide) (by rw [of_fl]; exact hf) ?_; intro _ _)
  go_ret
  exact ⟨_, _, rfl, rfl⟩

theorem l01Log_any (x : FV .f32) (i : Nat) (w : World) (m : Nat) : Calls Try.prog 63 #[.float .f32 (x.fl i)] (w.drewN m) (RetF (logF x) w) := by
  have hc := Lib.hid (conv_logW x)
  go_enter Try.func63, Try.ntmps63
  go_wp2_with (first | (refine wp_conv (k := .f32) .f64 rfl rfl (by rw [Try.underlying22]; rfl) Try.underlying26 (by decide) (by rw [of_fl]; exact fits_widen _) ?_; intro _ _) | (go_at_call 101; refine (logWide_any _ _ _ _).mono ?_; rintro e w' ⟨j, n, rfl, rfl⟩) | (go_at_call 96; refine (l01Narrow_any _ (fits_logW _) _ _ _).mono ?_; rintro e w' ⟨j, n, rfl, rfl⟩))
  go_ret
  exact ⟨_, _, by rw [← hc.out]; rfl, rfl⟩

theorem logarithm_pos (x : FV .f32) (h : x.isFin = true) (h0 : 0 < x.val) (i : Nat) (w : World) (m : Nat) : Calls Try.prog 103 #[.float .f32 (x.fl i)] (w.drewN m) (RetF (logV (conv .f64 x)) w) := by
  obtain ⟨b, hb1, hb2, hb3⟩ := conv_pos h h0
  have H1 := Lib.hid hb1
  have H2 := Lib.hid hb2
  clear hb1 hb2 h0
  go_enter Try.func103, Try.ntmps103
  go_wp2_with (first | (refine wp_conv (k := .f32) .f64 rfl rfl (by rw [Try.underlying22]; rfl) Try.underlying26 (by decide) (by rw [of_fl]; exact fits_widen _) ?_; intro _ _) | (go_at_call 117; refine (naturalLog_pos b H1.out H2.out _ _ _).mono ?_; rintro e w' ⟨j, n, rfl, rfl⟩))
  go_ret
  exact ⟨_, _, by rw [hb3]; rfl, rfl⟩

end Go.Proofs.Ytnpgpkbnfibkkaa
