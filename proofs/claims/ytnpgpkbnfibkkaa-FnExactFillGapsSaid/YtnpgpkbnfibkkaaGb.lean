/- The walks: logarithms. -/
import Derived.Test.YtnpgpkbnfibkkaaGa
import Derived.Lib.Hide
namespace Go.Proofs.Ytnpgpkbnfibkkaa
open Go.RowKit Go.FV

abbrev B52 : Nat := 4503599627370496

theorem up_step {b c : Nat} (h2 : b < 9218868437227405312) (hc : c < logUp b) : 4609434218613702656 ≤ b - c * 4503599627370496 ∧ c * 4503599627370496 ≤ b := by
  unfold logUp at hc
  by_cases c1 : 4609434218613702656 ≤ b
  · rw [if_pos c1] at hc
    have d1 := Nat.div_add_mod (b - 4609434218613702656) 4503599627370496
    generalize (b - 4609434218613702656) / 4503599627370496 = q at *
    generalize (b - 4609434218613702656) % 4503599627370496 = r at *
    omega
  · rw [if_neg c1] at hc; omega

theorem up_end {b : Nat} (h2 : b < 9218868437227405312) : b - logUp b * 4503599627370496 < 4609434218613702656 ∧ logUp b * 4503599627370496 ≤ b := by
  unfold logUp
  by_cases c1 : 4609434218613702656 ≤ b
  · rw [if_pos c1]
    have d1 := Nat.div_add_mod (b - 4609434218613702656) 4503599627370496
    have d2 := Nat.mod_lt (b - 4609434218613702656) (show 0 < 4503599627370496 by omega)
    generalize (b - 4609434218613702656) / 4503599627370496 = q at *
    generalize (b - 4609434218613702656) % 4503599627370496 = r at *
    omega
  · rw [if_neg c1]; omega

theorem ge_up {b : Nat} (h : b < 9218868437227405312) : (FV.cmp (wd b) (of .f64 4609434218613702656) == some .gt || FV.cmp (wd b) (of .f64 4609434218613702656) == some .eq) = decide (4609434218613702656 ≤ b) :=
  wd_ge (b := 4609434218613702656) (by rw [f64_inf]; exact h) (by rw [f64_inf]; omega)

theorem half_up {b : Nat} (h1 : 4609434218613702656 ≤ b) (h2 : b < 9218868437227405312) : bin .quo (wd b) (of .f64 4611686018427387904) = wd (b - 4503599627370496) := by
  have h := wd_half (b := b - 4503599627370496) (by rw [f64_binade]; omega) (by rw [f64_binade, f64_inf]; omega)
  rw [f64_binade, show b - 4503599627370496 + 4503599627370496 = b by omega] at h
  exact h

theorem lt_down {b : Nat} (h : b < 9218868437227405312) : (FV.cmp (wd b) (of .f64 4604930618986332160) == some .lt) = decide (b < 4604930618986332160) :=
  wd_lt (b := 4604930618986332160) (by rw [f64_inf]; exact h) (by rw [f64_inf]; omega)

theorem double_down {b : Nat} (h0 : 4503599627370496 ≤ b) (h1 : b < 4604930618986332160) : bin .mul (wd b) (of .f64 4611686018427387904) = wd (b + 4503599627370496) := by
  have h := wd_double (b := b) (by rw [f64_binade]; exact h0) (by rw [f64_binade, f64_inf]; omega)
  rw [f64_binade] at h
  exact h

theorem down_step {b c : Nat} (hc : c < logDown b) : b + c * 4503599627370496 < 4604930618986332160 ∧ logUp b = 0 := by
  unfold logDown at hc
  by_cases c1 : b < 4604930618986332160
  · rw [if_pos c1] at hc
    refine ⟨?_, by unfold logUp; rw [if_neg (by omega)]⟩
    have d1 := Nat.div_add_mod (4604930618986332160 - b + 4503599627370495) 4503599627370496
    generalize (4604930618986332160 - b + 4503599627370495) / 4503599627370496 = q at *
    generalize (4604930618986332160 - b + 4503599627370495) % 4503599627370496 = r at *
    omega
  · rw [if_neg c1] at hc; omega

/-- The argument halved c times; then doubled c times. -/
def upW (b c : Nat) : FV .f64 := wd (b - c * 4503599627370496)
def dnW (b c : Nat) : FV .f64 := wd (b + c * 4503599627370496 - logUp b * 4503599627370496)

theorem upW_zero (b : Nat) : upW b 0 = wd b := by unfold upW; rw [Nat.zero_mul, Nat.sub_zero]
theorem dnW_zero (b : Nat) : dnW b 0 = upW b (logUp b) := by unfold upW dnW; rw [Nat.zero_mul, Nat.add_zero]

theorem upW_more {b c : Nat} (h2 : b < 9218868437227405312) (hc : c < logUp b) :
    (FV.cmp (upW b c) (of .f64 4609434218613702656) == some .gt || FV.cmp (upW b c) (of .f64 4609434218613702656) == some .eq) = true ∧ bin .quo (upW b c) (of .f64 4611686018427387904) = upW b (c + 1) := by
  obtain ⟨s1, s2⟩ := up_step h2 hc
  have hlt : b - c * 4503599627370496 < 9218868437227405312 := by omega
  refine ⟨by unfold upW; rw [ge_up hlt, decide_eq_true s1], ?_⟩
  have hh := half_up s1 hlt
  rw [Nat.sub_sub, show c * 4503599627370496 + 4503599627370496 = (c + 1) * 4503599627370496 by omega] at hh
  exact hh

theorem upW_end {b : Nat} (h2 : b < 9218868437227405312) :
    (FV.cmp (upW b (logUp b)) (of .f64 4609434218613702656) == some .gt || FV.cmp (upW b (logUp b)) (of .f64 4609434218613702656) == some .eq) = false := by
  obtain ⟨s1, s2⟩ := up_end h2
  unfold upW
  rw [ge_up (by omega), decide_eq_false (by omega)]

theorem dnW_more {b c : Nat} (h1 : 4503599627370496 ≤ b) (h2 : b < 9218868437227405312) (hc : c < logDown b) :
    (FV.cmp (dnW b c) (of .f64 4604930618986332160) == some .lt) = true ∧ bin .mul (dnW b c) (of .f64 4611686018427387904) = dnW b (c + 1) := by
  obtain ⟨s1, s2⟩ := down_step hc
  have e : b + c * 4503599627370496 - logUp b * 4503599627370496 = b + c * 4503599627370496 := by rw [s2, Nat.zero_mul, Nat.sub_zero]
  have e' : b + (c + 1) * 4503599627370496 - logUp b * 4503599627370496 = b + c * 4503599627370496 + 4503599627370496 := by rw [s2, Nat.zero_mul, Nat.sub_zero, Nat.add_mul, Nat.one_mul, Nat.add_assoc]
  unfold dnW
  rw [e, e']
  exact ⟨by rw [lt_down (by omega), decide_eq_true s1], double_down (by omega) s1⟩

theorem dnW_end {b : Nat} (h1 : 4503599627370496 ≤ b) (h2 : b < 9218868437227405312) : (FV.cmp (dnW b (logDown b)) (of .f64 4604930618986332160) == some .lt) = false := by
  obtain ⟨a1, a2, a3, a4⟩ := log_arg h1 h2
  unfold dnW
  rw [lt_down (by omega), decide_eq_false (by omega)]

theorem logV_wd {b : Nat} (h2 : b < 9218868437227405312) : logV (wd b) = logTail (dnW b (logDown b)) (ofInt .f64 ((logUp b : Int) - (logDown b : Int))) := by
  have e : (wd b).b = b := by rw [wd_rung (by rw [f64_inf]; omega), ofRung_b _ _ (by rw [f64_inf]; omega)]; rfl
  unfold logV; rw [e]; rfl

/-- The tests at a positive word. -/
theorem pos_tests {b : Nat} (h1 : 4503599627370496 ≤ b) (h2 : b < 9218868437227405312) :
    (FV.cmp (wd b) (wd b) != some .eq) = false ∧ (FV.cmp (wd b) (of .f64 0) == some .lt) = false ∧ (FV.cmp (wd b) (of .f64 0) == some .eq) = false ∧ ((wd b).datum == .infinity false) = false := by
  refine ⟨by rw [isNaN_eq]; exact fin_not_nan (wd_fin h2).1, ?_, ?_, ?_⟩
  · have := wd_lt (a := b) (b := 0) h2 (by decide); unfold FV.lt at this; rw [show (of .f64 0) = wd 0 from rfl, this]; simp
  · have h := eq_iff (wd_fin h2).1 zero64_val.1
    have hp := rv_pos FloatKind.f64.format (show 0 < b by omega)
    rw [(wd_fin h2).2, zero64_val.2] at h
    cases hc : (FV.cmp (wd b) (of .f64 0) == some .eq)
    · rfl
    · have := h.1 hc; rw [this] at hp; exact absurd hp Rat.lt_irrefl
  · obtain ⟨s, mm, e, hd⟩ := fin_number (wd_fin h2).1
    rw [hd]; rfl

set_option maxHeartbeats 400000 in
theorem logWide_pos (b : Nat) (h1 : 4503599627370496 ≤ b) (h2 : b < 9218868437227405312) (i : Nat) (w : World) (m : Nat) : Calls Try.prog 101 #[.float .f64 ((wd b).fl i)] (w.drewN m) (RetF (logV (wd b)) w) := by
  obtain ⟨g1, g2, g3, g4⟩ := pos_tests h1 h2
  have a3 := (log_arg h1 h2).2.2
  have U := @upW_more b
  have UE := Lib.hid (upW_end h2)
  have D := @dnW_more b
  have DE := Lib.hid (dnW_end h1 h2)
  have z := Lib.hid (upW_zero b)
  have z' := Lib.hid (dnW_zero b)
  rw [logV_wd h2]
  generalize hx : wd b = x at *
  have H1 := Lib.hid h1
  have H2 := Lib.hid h2
  have X := Lib.hid hx
  clear h1 h2 hx
  go_enter Try.func101, Try.ntmps101
  go_wp2_with (go_at_call 116; refine (isInf1_any _ _ _ _).mono ?_; rintro e w' ⟨n, rfl, rfl⟩)
  go_loopw [0, 3] (fun v e wr => ∃ c : Nat, c ≤ logUp b ∧ e = .int .i64 c ∧ (∃ j, v = .float .f64 ((upW b c).fl j)) ∧ ∃ n, wr = w.drewN n) (fun _ e _ => logUp b - (intOf e).toNat)
  case atStart => exact ⟨0, Nat.zero_le _, rfl, ⟨i, by rw [z.out]⟩, _, rfl⟩
  case round =>
    obtain ⟨c, hc, rfl, ⟨j, rfl⟩, n, rfl⟩ := hrel
    by_cases hcu : c < logUp b
    · obtain ⟨ht, hh⟩ := U H2.out hcu
      go_wp2_with (refine wp_arith rfl rfl rfl rfl ?_; intro _ _)
      go_roundw
      case rel => exact ⟨c + 1, by omega, by go_num, ⟨_, rfl⟩, _, rfl⟩
      case measure => simp [intOf]; omega
    · obtain rfl : c = logUp b := by omega
      have ht := UE.out
      go_wp2_with (fail)
      go_loopw [0, 3] (fun v e wr => ∃ c : Nat, c ≤ logDown b ∧ e = .int .i64 ((logUp b : Int) - (c : Int)) ∧ (∃ j, v = .float .f64 ((dnW b c).fl j)) ∧ ∃ n, wr = w.drewN n) (fun _ e _ => (intOf e + (logDown b : Int) - (logUp b : Int)).toNat)
      case atStart => exact ⟨0, Nat.zero_le _, by simp, ⟨j, by rw [z'.out]⟩, _, rfl⟩
      case round =>
        obtain ⟨c, hc, rfl, ⟨j, rfl⟩, n, rfl⟩ := hrel
        by_cases hcu : c < logDown b
        · obtain ⟨ht, hh⟩ := D H1.out H2.out hcu
          go_wp2_with (refine wp_arith rfl rfl rfl rfl ?_; intro _ _)
          go_roundw
          case rel => exact ⟨c + 1, by omega, by go_num, ⟨_, rfl⟩, _, rfl⟩
          case measure => simp [intOf]; omega
        · obtain rfl : c = logDown b := by omega
          have ht := DE.out
          go_wp2_with (refine wp_arith rfl rfl rfl rfl ?_; intro _ _)
          generalize dnW b (logDown b) = y at *
          go_loopw [6, 7] (fun q k wr => ∃ c : Nat, c ≤ 13 ∧ k = .int .i64 (25 - 2 * (c : Int)) ∧ (∃ j, q = .float .f64 ((logQ (bin .mul (bin .quo (bin .sub y (of .f64 4607182418800017408)) (bin .add y (of .f64 4607182418800017408))) (bin .quo (bin .sub y (of .f64 4607182418800017408)) (bin .add y (of .f64 4607182418800017408)))) c).fl j)) ∧ ∃ n, wr = w.drewN n) (fun _ k _ => (intOf k + 1).toNat)
          case atStart => exact ⟨0, by omega, rfl, ⟨0, by rw [show logQ _ 0 = of .f64 0 from rfl, fl_lit (by decide) (by decide)]⟩, _, rfl⟩
          case round =>
            obtain ⟨c, hc, rfl, ⟨j, rfl⟩, n, rfl⟩ := hrel
            by_cases hcu : c < 13
            · go_wp2_with (refine wp_arith rfl rfl rfl rfl ?_; intro _ _)
              go_roundw
              case rel => exact ⟨c + 1, by omega, by go_num, ⟨_, rfl⟩, _, rfl⟩
              case measure => simp [intOf]; omega
            · obtain rfl : c = 13 := by omega
              go_wp2_with (refine wp_arith rfl rfl rfl rfl ?_; intro _ _)
              go_ret
              exact ⟨_, _, rfl, rfl⟩

theorem ofInt_ne {n : Int} (h : n.natAbs ≤ 3000) (h0 : n ≠ 0) : (ofInt .f64 n).val ≠ 0 := by
  rw [(ofInt_exact .f64 (by rw [f64_binade]; omega)).2]
  intro e
  exact h0 (Rat.intCast_inj.1 e)

theorem ofInt_inc {n : Int} (h : n.natAbs ≤ 2000) (h0 : n + 1 ≠ 0) : bin .add (ofInt .f64 n) (of .f64 4607182418800017408) = ofInt .f64 (n + 1) := by
  have a := ofInt_exact .f64 (n := n) (by rw [f64_binade]; omega)
  have b := ofInt_exact .f64 (n := n + 1) (by rw [f64_binade]; omega)
  have h3 := (add_rounds a.1 one_val.1).exact b.1 (by rw [a.2, b.2, one_val.2, Rat.intCast_add]; rfl)
  exact eq_of_val h3.1 b.1 h3.2 (fun e => ofInt_ne (by omega) h0 (h3.2.symm.trans e))

theorem ofInt_dec {n : Int} (h : n.natAbs ≤ 2000) (h0 : n - 1 ≠ 0) : bin .sub (ofInt .f64 n) (of .f64 4607182418800017408) = ofInt .f64 (n - 1) := by
  have a := ofInt_exact .f64 (n := n) (by rw [f64_binade]; omega)
  have b := ofInt_exact .f64 (n := n - 1) (by rw [f64_binade]; omega)
  have h3 := (sub_rounds a.1 one_val.1).exact b.1 (by rw [a.2, b.2, one_val.2, Rat.intCast_sub]; rfl)
  exact eq_of_val h3.1 b.1 h3.2 (fun e => ofInt_ne (by omega) h0 (h3.2.symm.trans e))

theorem ofInt_zero (j : Nat) : fl (ofInt .f64 0) j = 0 := by rw [show ofInt .f64 0 = of .f64 0 by decide +kernel, fl_lit (by decide) (by decide)]

/-- The word in a slot, for a loop's measure. -/
def bitsOf : Value → Nat | .float _ r => r | _ => 0
theorem bitsOf_float (k : FloatKind) (r : Nat) : bitsOf (.float k r) = r := rfl

theorem wd_word {b : Nat} (h : b < 9218868437227405312) (j : Nat) : fl (wd b) j = b := by
  rw [fl_num (fin_not_nan (wd_fin h).1), wd_rung (by rw [f64_inf]; omega), ofRung_b _ _ (by rw [f64_inf]; omega)]; rfl

theorem upW_word {b c : Nat} (h2 : b < 9218868437227405312) (hc : c < logUp b) (j j' : Nat) : fl (upW b (c + 1)) j < fl (upW b c) j' := by
  obtain ⟨s1, s2⟩ := up_step h2 hc
  unfold upW
  rw [wd_word (by omega), wd_word (by omega), Nat.add_mul, Nat.one_mul, ← Nat.sub_sub]
  omega

def topW : Nat := 9218868437227405312
theorem dnW_word {b c : Nat} (hc : c < logDown b) (j j' : Nat) : topW - fl (dnW b (c + 1)) j < topW - fl (dnW b c) j' := by
  obtain ⟨s1, s2⟩ := down_step hc
  unfold dnW topW
  rw [s2, Nat.zero_mul, Nat.sub_zero, Nat.sub_zero, Nat.add_mul, Nat.one_mul, ← Nat.add_assoc, wd_word (by omega), wd_word (by omega)]
  omega

set_option maxHeartbeats 400000 in
theorem naturalLog_pos (b : Nat) (h1 : 4503599627370496 ≤ b) (h2 : b < 9218868437227405312) (i : Nat) (w : World) (m : Nat) : Calls Try.prog 117 #[.float .f64 ((wd b).fl i)] (w.drewN m) (RetF (logV (wd b)) w) := by
  have a3 := (log_arg h1 h2).2.2
  have U := @upW_more b
  have UE := Lib.hid (upW_end h2)
  have UM := Lib.hid (fun c => @upW_word b c)
  have D := @dnW_more b
  have DS := @down_step b
  have DE := Lib.hid (dnW_end h1 h2)
  have DM := Lib.hid (fun c => @dnW_word b c)
  have z := Lib.hid (upW_zero b)
  have z' := Lib.hid (dnW_zero b)
  rw [logV_wd h2]
  generalize hx : wd b = x at *
  have H1 := Lib.hid h1
  have H2 := Lib.hid h2
  have X := Lib.hid hx
  clear h1 h2 hx
  go_enter Try.func117, Try.ntmps117
  go_wp2_with (fail)
  go_loopw [0, 3] (fun v e wr => ∃ c : Nat, c ≤ logUp b ∧ (∃ j, e = .float .f64 ((ofInt .f64 c).fl j)) ∧ (∃ j, v = .float .f64 ((upW b c).fl j)) ∧ ∃ n, wr = w.drewN n) (fun v _ _ => bitsOf v)
  case atStart => exact ⟨0, Nat.zero_le _, ⟨0, by rw [show ((0 : Nat) : Int) = 0 from rfl, ofInt_zero]⟩, ⟨i, by rw [z.out]⟩, _, rfl⟩
  case round =>
    obtain ⟨c, hc, ⟨j', rfl⟩, ⟨j, rfl⟩, n, rfl⟩ := hrel
    by_cases hcu : c < logUp b
    · obtain ⟨ht, hh⟩ := U H2.out hcu
      have hi := ofInt_inc (n := (c : Int)) (by omega) (by omega)
      go_wp2_with (refine wp_arith rfl rfl rfl rfl ?_; intro _ _)
      go_roundw
      case rel => exact ⟨c + 1, by omega, ⟨_, by rw [show ((c + 1 : Nat) : Int) = (c : Int) + 1 by omega]⟩, ⟨_, rfl⟩, _, rfl⟩
      case measure => rw [bitsOf_float, bitsOf_float]; exact UM.out c H2.out hcu _ _
    · obtain rfl : c = logUp b := by omega
      have ht := UE.out
      go_wp2_with (fail)
      go_loopw [0, 3] (fun v e wr => ∃ c : Nat, c ≤ logDown b ∧ (∃ j, e = .float .f64 ((ofInt .f64 ((logUp b : Int) - (c : Int))).fl j)) ∧ (∃ j, v = .float .f64 ((dnW b c).fl j)) ∧ ∃ n, wr = w.drewN n) (fun v _ _ => topW - bitsOf v)
      case atStart => exact ⟨0, Nat.zero_le _, ⟨j', by simp⟩, ⟨j, by rw [z'.out]⟩, _, rfl⟩
      case round =>
        obtain ⟨c, hc, ⟨j', rfl⟩, ⟨j, rfl⟩, n, rfl⟩ := hrel
        by_cases hcu : c < logDown b
        · obtain ⟨ht, hh⟩ := D H1.out H2.out hcu
          have hu := (DS hcu).2
          have hi := ofInt_dec (n := (logUp b : Int) - (c : Int)) (by omega) (by omega)
          clear hu
          go_wp2_with (refine wp_arith rfl rfl rfl rfl ?_; intro _ _)
          go_roundw
          case rel => exact ⟨c + 1, by omega, ⟨_, by rw [show (logUp b : Int) - ((c + 1 : Nat) : Int) = (logUp b : Int) - (c : Int) - 1 by omega]⟩, ⟨_, rfl⟩, _, rfl⟩
          case measure => rw [bitsOf_float, bitsOf_float]; exact DM.out c hcu _ _
        · obtain rfl : c = logDown b := by omega
          have ht := DE.out
          go_wp2_with (refine wp_arith rfl rfl rfl rfl ?_; intro _ _)
          generalize dnW b (logDown b) = y at *
          go_loopw [6, 7] (fun q k wr => ∃ c : Nat, c ≤ 13 ∧ k = .int .i64 (25 - 2 * (c : Int)) ∧ (∃ j, q = .float .f64 ((logQ (bin .mul (bin .quo (bin .sub y (of .f64 4607182418800017408)) (bin .add y (of .f64 4607182418800017408))) (bin .quo (bin .sub y (of .f64 4607182418800017408)) (bin .add y (of .f64 4607182418800017408)))) c).fl j)) ∧ ∃ n, wr = w.drewN n) (fun _ k _ => (intOf k + 1).toNat)
          case atStart => exact ⟨0, by omega, rfl, ⟨0, by rw [show logQ _ 0 = of .f64 0 from rfl, fl_lit (by decide) (by decide)]⟩, _, rfl⟩
          case round =>
            obtain ⟨c, hc, rfl, ⟨j, rfl⟩, n, rfl⟩ := hrel
            by_cases hcu : c < 13
            · go_wp2_with (refine wp_arith rfl rfl rfl rfl ?_; intro _ _)
              go_roundw
              case rel => exact ⟨c + 1, by omega, by go_num, ⟨_, rfl⟩, _, rfl⟩
              case measure => simp [intOf]; omega
            · obtain rfl : c = 13 := by omega
              go_wp2_with (refine wp_arith rfl rfl rfl rfl ?_; intro _ _)
              go_ret
              exact ⟨_, _, rfl, rfl⟩

end Go.Proofs.Ytnpgpkbnfibkkaa
