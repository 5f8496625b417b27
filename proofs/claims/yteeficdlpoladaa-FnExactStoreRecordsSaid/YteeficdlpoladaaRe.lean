/- The walks: floats and rows of floats held against each other. -/
import Derived.Test.YteeficdlpoladaaRd
import Derived.Test.YteeficdlpoladaaFs
import Derived.Deep.QuietTactic
import Derived.BigQuiet
namespace Go.Proofs.Yteeficdlpoladaa
open Go.RowKit Go.FV

theorem call50 (b : Nat) (w : World) : (callFunc 50 #[.float .f32 b]).run Try.prog w = .ok (.value (.int .u32 b)) w := by
  rw [run_callFunc_extern (e := Extern.MathFloatBits.float32bits) Try.func50 (by kernel_rfl) (by kernel_rfl) (by kernel_rfl) (by kernel_rfl)]; rfl
theorem call51 (b : Nat) (w : World) : (callFunc 51 #[.float .f64 b]).run Try.prog w = .ok (.value (.int .u64 b)) w := by
  rw [run_callFunc_extern (e := Extern.MathFloatBits.float64bits) Try.func51 (by kernel_rfl) (by kernel_rfl) (by kernel_rfl) (by kernel_rfl)]; rfl

def RetBits (x : FV .f32) (w : World) (e : Ending) (w' : World) : Prop := e = .returned (.int .i64 (x.b : Nat)) ∧ w' = w

theorem bnd32 (x : FV .f32) : x.b < 4294967296 := x.bnd
theorem bnd64 (x : FV .f64) : x.b < 18446744073709551616 := x.bnd
theorem nan_bits {x : FV .f32} (h : x.isNaN = true) : x.b = 2143289344 := by rw [eq_nan h]; rfl

theorem specBits_any (x : FV .f32) (i : Nat) (w : World) : Calls Try.prog 44 #[.float .f32 (x.fl i)] w (RetBits x w) := by
  cases hn : x.isNaN
  · have g1 : FV.cmp x x = some .eq := cmp_self hn
    have h := call50
    have hb : x.fl i < 4294967296 := fl_lt x i
    have hf := Lib.hid (fl_num hn i)
    go_enter Try.func44, Try.ntmps44
    go_wp2_with (fail)
    go_ret
    exact ⟨by rw [← hf.out]; rfl, rfl⟩
  · have g1 : FV.cmp x x = none := cmp_nan_left hn
    have hb := Lib.hid (nan_bits hn)
    go_enter Try.func44, Try.ntmps44
    go_wp2_with (fail)
    go_ret
    exact ⟨by rw [hb.out]; rfl, rfl⟩
theorem implBits_any (x : FV .f32) (i : Nat) (w : World) : Calls Try.prog 48 #[.float .f32 (x.fl i)] w (RetBits x w) := by
  cases hn : x.isNaN
  · have g1 : FV.cmp x x = some .eq := cmp_self hn
    have h := call50
    have hb : x.fl i < 4294967296 := fl_lt x i
    have hf := Lib.hid (fl_num hn i)
    go_enter Try.func48, Try.ntmps48
    go_wp2_with (fail)
    go_ret
    exact ⟨by rw [← hf.out]; rfl, rfl⟩
  · have g1 : FV.cmp x x = none := cmp_nan_left hn
    have hb := Lib.hid (nan_bits hn)
    go_enter Try.func48, Try.ntmps48
    go_wp2_with (fail)
    go_ret
    exact ⟨by rw [hb.out]; rfl, rfl⟩

theorem nat_beq (a b : Nat) : ((a : Int) == (b : Int)) = (a == b) := by
  rw [Bool.eq_iff_iff, beq_iff_eq, beq_iff_eq]; omega

theorem sign_wrap (x : FV .f64) {i : Nat} (h : x.fl i = x.b) : decide (wrap64 ((x.fl i : Nat) : Int) < 0) = signOf x := by
  have hb := bnd64 x
  unfold signOf
  rw [h, decide_eq_decide, show FloatKind.f64.format.signWeight = 9223372036854775808 from rfl]
  unfold wrap64
  omega

theorem l01Same_any (x y : FV .f32) (i j : Nat) (w : World) : Calls Try.prog 26 #[.float .f32 (x.fl i), .float .f32 (y.fl j)] w (fun e w' => e = .returned (.bool (sameF x y)) ∧ w' = w) := by
  go_enter Try.func26, Try.ntmps26
  go_wp2_with (go_at_call 44; refine (specBits_any _ _ _).mono ?_; rintro e w' ⟨rfl, rfl⟩)
  go_ret
  exact ⟨by unfold sameF; rw [← nat_beq]; rfl, rfl⟩

theorem signbit_any (x : FV .f64) (hn : x.isNaN = false) (i : Nat) (w : World) : Calls Try.prog 45 #[.float .f64 (x.fl i)] w (fun e w' => e = .returned (.bool (signOf x)) ∧ w' = w) := by
  have h := call51
  have hb : x.fl i < 18446744073709551616 := fl_lt x i
  have hf := Lib.hid (fl_num hn i)
  go_enter Try.func45, Try.ntmps45
  go_wp2_with (fail)
  go_ret
  exact ⟨by rw [← sign_wrap x hf.out]; rfl, rfl⟩

/-- impl.SameNumber. -/
theorem sameNumber_any (x y : FV .f32) (i j : Nat) (w : World) (m : Nat) : Calls Try.prog 29 #[.float .f32 (x.fl i), .float .f32 (y.fl j)] (w.drewN m) (RetB (sameF x y) w) := by
  cases hx : x.isNaN
  · have g1 : FV.cmp x x = some .eq := cmp_self hx
    cases hy : y.isNaN
    · have g2 : FV.cmp y y = some .eq := cmp_self hy
      have hs := Lib.hid (same_iff hx hy)
      have hcx : (conv .f64 x).isNaN = false := by rw [isNaN_conv]; exact hx
      have hcy : (conv .f64 y).isNaN = false := by rw [isNaN_conv]; exact hy
      have HCX := Lib.hid hcx
      have HCY := Lib.hid hcy
      have HSX := Lib.hid (sign_conv (k' := .f64) hx)
      have HSY := Lib.hid (sign_conv (k' := .f64) hy)
      clear hcx hcy hx hy
      cases hc : (FV.cmp x y == some .eq)
      · have HC := Lib.hid hc
        go_enter Try.func29, Try.ntmps29
        go_wp2_with (fail)
        go_ret
        exact ⟨_, by rw [sameF_eq, ← hs.out, HC.out]; rfl, rfl⟩
      · have HC := Lib.hid hc
        go_enter Try.func29, Try.ntmps29
        go_wp2_with (first | (go_at_call 45; ((with_reducible refine (signbit_any _ HCX.out _ _).mono ?_); rintro e w' ⟨rfl, rfl⟩)) | (go_at_call 45; ((with_reducible refine (signbit_any _ HCY.out _ _).mono ?_); rintro e w' ⟨rfl, rfl⟩)) | (refine wp_conv (k := .f32) (t := 48) (t' := 64) .f64 rfl rfl (by rw [Try.underlying48]; rfl) Try.underlying64 (by decide) (by rw [of_fl]; exact fits_widen _) ?_; intro _ _))
        go_ret
        refine ⟨_, ?_, rfl⟩
        rw [sameF_eq, ← hs.out, HC.out, ← HSX.out, ← HSY.out]
        rfl
    · have g2 : FV.cmp y y = none := cmp_nan_left hy
      have hne := Lib.hid (show sameF x y = false by rw [sameF_eq, decide_eq_false_iff_not]; intro e; rw [e, hy] at hx; cases hx)
      clear hx hy
      go_enter Try.func29, Try.ntmps29
      go_wp2_with (fail)
      go_ret
      exact ⟨_, by rw [hne.out]; rfl, rfl⟩
  · have g1 : FV.cmp x x = none := cmp_nan_left hx
    cases hy : y.isNaN
    · have g2 : FV.cmp y y = some .eq := cmp_self hy
      have hne := Lib.hid (show sameF x y = false by rw [sameF_eq, decide_eq_false_iff_not]; intro e; rw [e, hy] at hx; cases hx)
      clear hx hy
      go_enter Try.func29, Try.ntmps29
      go_wp2_with (fail)
      go_ret
      exact ⟨_, by rw [hne.out]; rfl, rfl⟩
    · have g2 : FV.cmp y y = none := cmp_nan_left hy
      have hne := Lib.hid (show sameF x y = true by rw [sameF_eq, decide_eq_true_eq, eq_nan hx, eq_nan hy])
      clear hx hy
      go_enter Try.func29, Try.ntmps29
      go_wp2_with (fail)
      go_ret
      exact ⟨_, by rw [hne.out]; rfl, rfl⟩
end Go.Proofs.Yteeficdlpoladaa
