/- The law's walk: RecedeRate. -/
import Derived.Test.YtnpgpkbnfibkkaaGm
namespace Go.Proofs.Ytnpgpkbnfibkkaa
open Go.RowKit Go.FV

set_option maxHeartbeats 800000 in
theorem lawRecede (p : Option Addr) (c : Nat) (xs : List (FV .f32)) (w : World) (hin : In32 w p xs) :
    Calls Try.prog 10 #[.slice p xs.length c] (w.drewN 0) (Holds w) := by
  by_cases hl : xs.length ≤ 1048576
  · have hl2 : decide ((xs.length : Int) > 1048576) = false := decide_eq_false (by omega)
    have hB := Below.refl w.heap.size w
    have hS := Nat.le_refl w.heap.size
    go_enter Try.func10, Try.ntmps10
    go_wp2_with (first
      | (go_at_call 29; refine (toFloat32S_any _ _ _ _ _ (by assumption) hl).mono ?_; rintro e w' ⟨b, w1, n, rfl, rfl, hb, ho⟩
         have hi := In32.below (p := p) (by assumption) hb
         have hB := Below.trans (B := w.heap.size) (by assumption) (hb.mono (by assumption))
         try have hk := In32.below (p := some ⟨_, 0, none⟩) (by assumption) hb
         have hc := ho.in32
         have hS := Nat.le_trans (n := w.heap.size) (by assumption) hb.size
         clear ho)
      | (go_at_call 40; refine (specRecede_any _ _ _ _ _ (by assumption) hl).mono ?_; rintro e w' ⟨j, n, rfl, rfl⟩)
      | (go_at_call 41; refine (implRecede_all _ _ _ _ _ (by assumption) hl).mono ?_; rintro e w' ⟨j, w1, n, rfl, rfl, hb⟩
         have hi := In32.below (p := p) (by assumption) hb
         have hB := Below.trans (B := w.heap.size) (by assumption) (hb.mono (by assumption))
         have hk := In32.below (p := some ⟨_, 0, none⟩) (by assumption) hb
         have hS := Nat.le_trans (n := w.heap.size) (by assumption) hb.size)
      | (go_at_call 31; refine (eqFloat32S_any _ _ _ _ _ _ _ (by assumption) (by assumption) hl).mono ?_; rintro e w' ⟨n, rfl, rfl⟩)
      | (go_at_call 17; refine (sameFloat_any _ _ _ _ _).mono ?_; rintro e w' ⟨n, rfl, rfl⟩)
      | (refine wp_conv (k := .f32) (t := 22) (t' := 26) .f64 rfl rfl (by rw [Try.underlying22]; rfl) Try.underlying26 (by decide) (by rw [of_fl]; exact fits_widen _) ?_; intro _ _))
    go_ret
    exact ⟨rfl, below_drawn (by assumption) _⟩
  · have hl2 : decide ((xs.length : Int) > 1048576) = true := decide_eq_true (by omega)
    go_enter Try.func10, Try.ntmps10
    go_wp2_with (fail)
    go_ret
    exact ⟨rfl, below_drawn (Below.refl _ _) _⟩
end Go.Proofs.Ytnpgpkbnfibkkaa
