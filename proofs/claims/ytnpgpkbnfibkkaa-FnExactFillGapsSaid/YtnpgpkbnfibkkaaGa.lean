/- The walks: finite numbers, not-a-numbers, infinities. -/
import Derived.Test.YtnpgpkbnfibkkaaProg
import Derived.Test.YtnpgpkbnfibkkaaFh
namespace Go.Proofs.Ytnpgpkbnfibkkaa
open Go.RowKit Go.FV

theorem call119 (b : Nat) (w : World) : (callFunc 119 #[.float .f64 b]).run Try.prog w = .ok (.value (.int .u64 b)) w := by
  rw [run_callFunc_extern (e := Extern.MathFloatBits.float64bits) Try.func119 (by kernel_rfl) (by kernel_rfl) (by kernel_rfl) (by kernel_rfl)]; rfl
theorem call115 (n : Int) (w : World) : (callFunc 115 #[.int .u64 n]).run Try.prog w = .ok (.value (.float .f64 n.toNat)) w := by
  rw [run_callFunc_extern (e := Extern.MathFloatBits.float64frombits) Try.func115 (by kernel_rfl) (by kernel_rfl) (by kernel_rfl) (by kernel_rfl)]; rfl
theorem call124 (b : Nat) (w : World) : (callFunc 124 #[.float .f32 b]).run Try.prog w = .ok (.value (.int .u32 b)) w := by
  rw [run_callFunc_extern (e := Extern.MathFloatBits.float32bits) Try.func124 (by kernel_rfl) (by kernel_rfl) (by kernel_rfl) (by kernel_rfl)]; rfl

theorem nan_any (w : World) (m : Nat) : Calls Try.prog 102 #[] (w.drewN m) (RetF (nan .f64) w) := by
  have h := call115
  go_enter Try.func102, Try.ntmps102
  go_wp2_with (fail)
  go_ret
  exact ⟨9221120237041090561, m, by rw [FV.nan_word (by decide) (by decide)]; rfl, rfl⟩

def minusInf : FV .f64 := of .f64 18442240474082181120

theorem inf_any (w : World) (m : Nat) : Calls Try.prog 100 #[.int .i64 (-1)] (w.drewN m) (RetF minusInf w) := by
  have h := call115
  go_enter Try.func100, Try.ntmps100
  go_wp2_with (fail)
  go_ret
  exact ⟨18442240474082181120, m, by rw [minusInf, fl_of (by decide)]; rfl, rfl⟩

theorem isNaN_any (x : FV .f64) (i : Nat) (w : World) (m : Nat) : Calls Try.prog 118 #[.float .f64 (x.fl i)] (w.drewN m) (RetB x.isNaN w) := by
  go_enter Try.func118, Try.ntmps118
  go_wp2_with (fail)
  go_ret
  exact ⟨m, by rw [← isNaN_eq]; rfl, rfl⟩

theorem abs_any (x : FV .f64) (i : Nat) (w : World) (m : Nat) : Calls Try.prog 105 #[.float .f64 (x.fl i)] (w.drewN m) (RetF (FV.abs x) w) := by
  have h := call115
  have h' := call119
  go_enter Try.func105, Try.ntmps105
  go_wp2_with (fail)
  go_ret
  obtain ⟨j, hj⟩ := abs_top x i
  exact ⟨j, m, by rw [← hj]; rfl, rfl⟩

theorem isInf0_any (x : FV .f64) (i : Nat) (w : World) (m : Nat) : Calls Try.prog 116 #[.float .f64 (x.fl i), .int .i64 0] (w.drewN m) (RetB x.isInf w) := by
  go_enter Try.func116, Try.ntmps116
  go_wp2_with (go_at_call 105; refine (abs_any _ _ _ _).mono ?_; rintro e w' ⟨j, n, rfl, rfl⟩)
  go_ret
  exact ⟨_, by rw [← isInf_abs]; rfl, rfl⟩

theorem isInf1_any (x : FV .f64) (i : Nat) (w : World) (m : Nat) : Calls Try.prog 116 #[.float .f64 (x.fl i), .int .i64 1] (w.drewN m) (RetB (x.datum == .infinity false) w) := by
  go_enter Try.func116, Try.ntmps116
  go_wp2_with (fail)
  go_ret
  exact ⟨_, by rw [← gt_max]; rfl, rfl⟩

theorem finite_any (x : FV .f64) (i : Nat) (w : World) (m : Nat) : Calls Try.prog 104 #[.float .f64 (x.fl i)] (w.drewN m) (RetB x.isFin w) := by
  rcases trichotomy x with ⟨h1, h2, h3⟩ | ⟨h1, h2, h3⟩ | ⟨h1, h2, h3⟩
  all_goals
    go_enter Try.func104, Try.ntmps104
    go_wp2_with (first | (go_at_call 118; refine (isNaN_any _ _ _ _).mono ?_; rintro e w' ⟨n, rfl, rfl⟩) | (go_at_call 116; refine (isInf0_any _ _ _ _).mono ?_; rintro e w' ⟨n, rfl, rfl⟩))
    go_ret
    exact ⟨_, by rw [h1]; rfl, rfl⟩

theorem isFinite_any (x : FV .f32) (i : Nat) (w : World) (m : Nat) : Calls Try.prog 68 #[.float .f32 (x.fl i)] (w.drewN m) (RetB x.isFin w) := by
  go_enter Try.func68, Try.ntmps68
  go_wp2_with (first | (go_at_call 104; refine (finite_any _ _ _ _).mono ?_; rintro e w' ⟨n, rfl, rfl⟩) | (refine wp_conv (k := .f32) .f64 rfl rfl (by rw [Try.underlying22]; rfl) Try.underlying26 (by decide) (by rw [of_fl]; exact fits_widen _) ?_; intro _ _))
  go_ret
  exact ⟨_, by rw [isFin_conv]; rfl, rfl⟩

theorem l01Finite_any (x : FV .f32) (i : Nat) (w : World) (m : Nat) : Calls Try.prog 54 #[.float .f32 (x.fl i)] (w.drewN m) (RetB x.isFin w) := by
  go_enter Try.func54, Try.ntmps54
  go_wp2_with (refine wp_arith rfl rfl rfl rfl ?_; intro _ _)
  go_ret
  exact ⟨_, by rw [← isFin_sub]; rfl, rfl⟩

/-- Finite and at least 0; finite and greater than 0. -/
def least (x : FV .f32) : Bool := x.isFin && FV.ge x (of .f32 0)
def above (x : FV .f32) : Bool := x.isFin && FV.gt x (of .f32 0)

theorem l02Least_any (x : FV .f32) (i : Nat) (w : World) (m : Nat) : Calls Try.prog 62 #[.float .f32 (x.fl i)] (w.drewN m) (RetB (least x) w) := by
  cases h : x.isFin
  all_goals
    go_enter Try.func62, Try.ntmps62
    go_wp2_with (go_at_call 54; refine (l01Finite_any _ _ _ _).mono ?_; rintro e w' ⟨n, rfl, rfl⟩)
    go_ret
    exact ⟨_, by rw [least, h]; rfl, rfl⟩

theorem l02Above_any (x : FV .f32) (i : Nat) (w : World) (m : Nat) : Calls Try.prog 55 #[.float .f32 (x.fl i)] (w.drewN m) (RetB (above x) w) := by
  cases h : x.isFin
  all_goals
    go_enter Try.func55, Try.ntmps55
    go_wp2_with (go_at_call 54; refine (l01Finite_any _ _ _ _).mono ?_; rintro e w' ⟨n, rfl, rfl⟩)
    go_ret
    exact ⟨_, by rw [above, h]; rfl, rfl⟩

theorem aMass_any (x : FV .f32) (i : Nat) (w : World) (m : Nat) : Calls Try.prog 64 #[.float .f32 (x.fl i)] (w.drewN m) (RetB (least x) w) := by
  cases h : x.isFin
  all_goals
    go_enter Try.func64, Try.ntmps64
    go_wp2_with (go_at_call 68; refine (isFinite_any _ _ _ _).mono ?_; rintro e w' ⟨n, rfl, rfl⟩)
    go_ret
    exact ⟨_, by rw [least, h]; rfl, rfl⟩

theorem aLength_any (x : FV .f32) (i : Nat) (w : World) (m : Nat) : Calls Try.prog 59 #[.float .f32 (x.fl i)] (w.drewN m) (RetB (above x) w) := by
  cases h : x.isFin
  all_goals
    go_enter Try.func59, Try.ntmps59
    go_wp2_with (go_at_call 68; refine (isFinite_any _ _ _ _).mono ?_; rintro e w' ⟨n, rfl, rfl⟩)
    go_ret
    exact ⟨_, by rw [above, h]; rfl, rfl⟩

/-- A number if it is finite, and whether it is. -/
def told (x : FV .f32) : FV .f32 := if x.isFin = true then x else of .f32 0

theorem fl_lit {k : FloatKind} {b : Nat} (h : b < 2 ^ k.format.width) (hn : (k.format.read b).isNaN = false) (j : Nat) : fl (of k b) j = b := by
  rw [fl_num (by rw [isNaN_of]; exact hn), of_num hn, Nat.mod_eq_of_lt h]

theorem l02Number_any (x : FV .f32) (i : Nat) (w : World) (m : Nat) : Calls Try.prog 57 #[.float .f32 (x.fl i)] (w.drewN m) (RetFB (told x) x.isFin w) := by
  cases h : x.isFin
  all_goals
    go_enter Try.func57, Try.ntmps57
    go_wp2_with (go_at_call 54; refine (l01Finite_any _ _ _ _).mono ?_; rintro e w' ⟨n, rfl, rfl⟩)
    go_ret2
    first | exact ⟨i, _, by rw [told, h]; rfl, rfl⟩ | exact ⟨i, _, by rw [told, h, if_neg (by simp), fl_lit (by decide) (by decide)]; rfl, rfl⟩

theorem finite32_any (x : FV .f32) (i : Nat) (w : World) (m : Nat) : Calls Try.prog 60 #[.float .f32 (x.fl i)] (w.drewN m) (RetFB (told x) x.isFin w) := by
  cases h : x.isFin
  all_goals
    go_enter Try.func60, Try.ntmps60
    go_wp2_with (go_at_call 68; refine (isFinite_any _ _ _ _).mono ?_; rintro e w' ⟨n, rfl, rfl⟩)
    go_ret2
    first | exact ⟨i, _, by rw [told, h]; rfl, rfl⟩ | exact ⟨i, _, by rw [told, h, if_neg (by simp), fl_lit (by decide) (by decide)]; rfl, rfl⟩

end Go.Proofs.Ytnpgpkbnfibkkaa
