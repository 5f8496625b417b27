/- The walks: square roots, sums of squares by a closure. -/
import Derived.Test.YtnpgpkbnfibkkaaFj
import Derived.Test.YtnpgpkbnfibkkaaGg
namespace Go.Proofs.Ytnpgpkbnfibkkaa
open Go.RowKit Go.FV

theorem call120 (x : FV .f64) (i : Nat) (w : World) (m : Nat) : ∃ j n, (callFunc 120 #[.float .f64 (x.fl i)]).run Try.prog (w.drewN m) = .ok (.value (.float .f64 ((FV.sqrt x).fl j))) (w.drewN n) := by
  obtain ⟨j, n, h⟩ := run_sqrt (P := Try.prog) (x.fl i) (w.drewN m)
  refine ⟨j, m + n, ?_⟩
  rw [run_callFunc_extern (e := Extern.MathSqrt.sqrt) Try.func120 (by kernel_rfl) (by kernel_rfl) (by kernel_rfl) (by kernel_rfl), h, of_fl, World.drewN_drewN]; rfl

theorem mathSqrt_any (x : FV .f64) (i : Nat) (w : World) (m : Nat) : Calls Try.prog 106 #[.float .f64 (x.fl i)] (w.drewN m) (RetF (FV.sqrt x) w) := by
  obtain ⟨j, n, h⟩ := call120 x i w m
  go_enter Try.func106, Try.ntmps106
  go_wp2_with (fail)
  go_ret
  exact ⟨_, _, rfl, rfl⟩

def rootF (x : FV .f32) : FV .f32 := conv .f32 (FV.sqrt (conv .f64 x))

theorem l01Sqrt_any (x : FV .f32) (i : Nat) (w : World) (m : Nat) : Calls Try.prog 73 #[.float .f32 (x.fl i)] (w.drewN m) (RetF (rootF x) w) := by
  go_enter Try.func73, Try.ntmps73
  go_wp2_with (first | (refine wp_conv (k := .f32) (t := 22) (t' := 26) .f64 rfl rfl (by rw [Try.underlying22]; rfl) Try.underlying26 (by decide) (by rw [of_fl]; exact fits_widen _) ?_; intro _ _) | (go_at_call 106; refine (mathSqrt_any _ _ _ _).mono ?_; rintro e w' ⟨j, n, rfl, rfl⟩) | (go_at_call 96; refine (l01Narrow_any _ (sqrt_fits_widen _) _ _ _).mono ?_; rintro e w' ⟨j, n, rfl, rfl⟩))
  go_ret
  exact ⟨_, _, rfl, rfl⟩

theorem rootNumber_any (x : FV .f32) (i : Nat) (w : World) (m : Nat) : Calls Try.prog 77 #[.float .f32 (x.fl i)] (w.drewN m) (RetF (rootF x) w) := by
  go_enter Try.func77, Try.ntmps77
  go_wp2_with (first | (refine wp_conv (k := .f64) (t := 26) (t' := 22) .f32 rfl rfl (by rw [Try.underlying26]; rfl) Try.underlying22 (by decide) (by rw [of_fl]; exact sqrt_fits_widen _) ?_; intro _ _) | (refine wp_conv (k := .f32) (t := 22) (t' := 26) .f64 rfl rfl (by rw [Try.underlying22]; rfl) Try.underlying26 (by decide) (by rw [of_fl]; exact fits_widen _) ?_; intro _ _) | (go_at_call 106; refine (mathSqrt_any _ _ _ _).mono ?_; rintro e w' ⟨j, n, rfl, rfl⟩))
  go_ret
  exact ⟨_, _, rfl, rfl⟩

theorem fitFloods1_any (y : FV .f32) (i : Nat) (k : Int) (g : Nat) (w : World) (m : Nat) (hc : w.cell? ⟨g, 0, none⟩ = some (.float .f32 (y.fl i))) :
    Calls Try.prog 79 #[.int .i64 k, .pointer (some ⟨g, 0, none⟩)] (w.drewN m) (RetF y w) := by
  have hc2 : (w.drewN m).cell? ⟨g, 0, none⟩ = some (.float .f32 (y.fl i)) := hc
  go_enter Try.func79, Try.ntmps79
  go_wp2_with (fail)
  go_ret
  exact ⟨_, _, rfl, rfl⟩

theorem squares_any (p : Option Addr) (c : Nat) (xs : List (FV .f32)) (y : FV .f32) (i g : Nat) (w : World) (m : Nat) (hin : In32 w p xs) (hl : xs.length ≤ 1048576)
    (hc : w.cell? ⟨g, 0, none⟩ = some (.float .f32 (y.fl i))) :
    Calls Try.prog 78 #[.slice p xs.length c, .func (.func 79) #[] #[.pointer (some ⟨g, 0, none⟩)]] (w.drewN m) (RetF (sqF y xs) w) := by
  have HI := Lib.hid hin
  clear hin
  have HC := Lib.hid hc
  clear hc
  go_enter Try.func78, Try.ntmps78
  go_wp2_with (fail)
  go_loopw [5, 11] (fun s k wr => ∃ (n : Nat) (q : Nat), n ≤ xs.length ∧ k = .int .i64 n ∧ wr = w.drewN q ∧ ∃ j, s = .float .f32 ((sqF y (xs.take n)).fl j)) (fun _ k _ => xs.length - (intOf k).toNat)
  case atStart => exact ⟨0, _, Nat.zero_le _, rfl, rfl, 0, by rw [List.take_zero, show sqF y [] = of .f32 0 from rfl, zero32]⟩
  case round =>
    obtain ⟨n, q, hn, rfl, rfl, js, rfl⟩ := hrel
    by_cases hlt : n < xs.length
    · obtain ⟨b, off, rfl, hb, hrow⟩ := HI.out (by intro e; rw [e] at hlt; simp at hlt)
      obtain ⟨j, hcell⟩ := hrow n xs[n] (List.getElem?_eq_getElem hlt)
      clear hrow
      have hg := Lib.hid (sqF_snoc (m := y) (List.getElem?_eq_getElem hlt))
      generalize xs[n] = x at *
      generalize sqF y (xs.take n) = s at *
      go_wp2_with (first | (refine wp_arith rfl rfl rfl rfl ?_; intro _ _) | (go_at_call 79; refine (fitFloods1_any _ _ _ _ _ _ HC.out).mono ?_; rintro e w' ⟨j, q2, rfl, rfl⟩))
      go_roundw
      case rel => exact ⟨n + 1, _, by omega, by go_num, rfl, _, by rw [hg.out]⟩
      case measure => simp [intOf]; omega
    · obtain rfl : n = xs.length := by omega
      rw [List.take_length]
      go_wp2_with (fail)
      go_ret
      exact ⟨_, _, rfl, rfl⟩

end Go.Proofs.Ytnpgpkbnfibkkaa
