/- The walks: FitFloods. -/
import Derived.Test.YtnpgpkbnfibkkaaGh
import Derived.OwnWalk
namespace Go.Proofs.Ytnpgpkbnfibkkaa
open Go.RowKit Go.FV

def fitDev (xs : List (FV .f32)) : FV .f32 := rootF (bin .quo (sqF (meanF xs) xs) (of .f32 (floatOfInt .f32 ((xs.length : Int) - 1))))
def fitScale (xs : List (FV .f32)) : FV .f32 := bin .mul (of .f32 1061657142) (fitDev xs)
def fitPlace (xs : List (FV .f32)) : FV .f32 := bin .sub (meanF xs) (bin .mul (of .f32 1058260072) (fitScale xs))
def fitGate (xs : List (FV .f32)) : Bool := gaugeB xs && decide (2 ≤ xs.length)
def fitOk (xs : List (FV .f32)) : Bool := fitGate xs && ((fitScale xs).isFin && (fitPlace xs).isFin)
def orZero (c : Bool) (x : FV .f32) : FV .f32 := if c = true then x else of .f32 0
theorem orZero_false (x : FV .f32) : orZero false x = of .f32 0 := rfl
theorem orZero_true (x : FV .f32) : orZero true x = x := rfl

set_option maxHeartbeats 800000 in
theorem specFit_any (p : Option Addr) (c : Nat) (xs : List (FV .f32)) (w : World) (m : Nat) (hin : In32 w p xs) (hl : xs.length ≤ 1048576) :
    Calls Try.prog 28 #[.slice p xs.length c] (w.drewN m) (RetFFB (orZero (fitOk xs) (fitPlace xs)) (orZero (fitOk xs) (fitScale xs)) (fitOk xs) w) := by
  have HI := Lib.hid hin
  clear hin
  have e2 : decide (2 ≤ xs.length) = decide ((2 : Int) ≤ (xs.length : Int)) := by rw [decide_eq_decide]; omega
  unfold fitOk fitGate
  rw [e2]
  cases h1 : gaugeB xs
  · simp only [Bool.false_and, orZero_false]
    go_enter Try.func28, Try.ntmps28
    go_wp2_with (go_at_call 71; refine (l07Gauge_any _ _ _ _ _ HI.out hl).mono ?_; rintro e w' ⟨n, rfl, rfl⟩)
    go_ret3
    exact ⟨0, 0, _, by rw [zero32]; rfl, rfl⟩
  · by_cases h2 : (2 : Int) ≤ (xs.length : Int)
    · have b2 : decide ((xs.length : Int) < 2) = false := decide_eq_false (by omega)
      rw [decide_eq_true h2]
      cases h3 : (fitScale xs).isFin <;> cases h4 : (fitPlace xs).isFin
      all_goals
        simp only [Bool.and_true, Bool.and_false, orZero_false, orZero_true]
        unfold fitPlace fitScale fitDev at h4
        unfold fitScale fitDev at h3
        go_enter Try.func28, Try.ntmps28
        go_wp2_with (first | (go_at_call 71; refine (l07Gauge_any _ _ _ _ _ HI.out hl).mono ?_; rintro e w' ⟨n, rfl, rfl⟩) | (go_at_call 72; refine (l07Mean_any _ _ _ _ _ HI.out hl).mono ?_; rintro e w' ⟨j, n, rfl, rfl⟩) | (go_at_call 74; refine (l07Squares_any _ _ _ _ _ _ _ HI.out hl).mono ?_; rintro e w' ⟨j, n, rfl, rfl⟩) | (go_at_call 73; refine (l01Sqrt_any _ _ _ _).mono ?_; rintro e w' ⟨j, n, rfl, rfl⟩) | (go_at_call 54; refine (l01Finite_any _ _ _ _).mono ?_; rintro e w' ⟨n, rfl, rfl⟩) | (refine wp_arith rfl rfl rfl rfl ?_; intro _ _))
        go_ret3
        first | exact ⟨_, _, _, rfl, rfl⟩ | exact ⟨0, 0, _, by rw [zero32]; rfl, rfl⟩
    · have b2 : decide ((xs.length : Int) < 2) = true := decide_eq_true (by omega)
      rw [decide_eq_false h2]
      simp only [Bool.false_and, Bool.and_false, orZero_false]
      go_enter Try.func28, Try.ntmps28
      go_wp2_with (go_at_call 71; refine (l07Gauge_any _ _ _ _ _ HI.out hl).mono ?_; rintro e w' ⟨n, rfl, rfl⟩)
      go_ret3
      exact ⟨0, 0, _, by rw [zero32]; rfl, rfl⟩

def RetFFBb (u v : FV .f32) (b : Bool) (w : World) (e : Ending) (w' : World) : Prop :=
  ∃ i j w1 n, e = .returned (.tuple #[.float .f32 (u.fl i), .float .f32 (v.fl j), .bool b]) ∧ w' = w1.drewN n ∧ Below w.heap.size w w1

theorem cell_new1 (w : World) (v : Value) (t : TypeId) : (w.alloc (.cells #[v] t)).cell? ⟨w.heap.size, 0, none⟩ = some v := by
  rw [World.cell?_alloc_new]; rfl

theorem squares_new (p : Option Addr) (c : Nat) (xs : List (FV .f32)) (y : FV .f32) (i : Nat) (w : World) (m : Nat) (hin : In32 w p xs) (hl : xs.length ≤ 1048576) :
    Calls Try.prog 78 #[.slice p xs.length c, .func (.func 79) #[] #[.pointer (some ⟨w.heap.size, 0, none⟩)]] ((w.alloc (.cells #[.float .f32 (y.fl i)] 22)).drewN m) (RetF (sqF y xs) (w.alloc (.cells #[.float .f32 (y.fl i)] 22))) :=
  squares_any p c xs y i w.heap.size (w.alloc (.cells #[.float .f32 (y.fl i)] 22)) m (hin.below ((Below.refl _ _).alloc (Nat.le_refl _) _)) hl (cell_new1 _ _ _)

theorem areFinite_two (x y : FV .f32) (i j : Nat) (v : Value) (w : World) (m : Nat) :
    Calls Try.prog 58 #[.slice (some ⟨w.heap.size + 1, 0, none⟩) 2 2] (((w.alloc (.cells #[v] 22)).alloc (.cells #[.float .f32 (x.fl i), .float .f32 (y.fl j)] 22)).drewN m)
      (RetB (x.isFin && y.isFin) ((w.alloc (.cells #[v] 22)).alloc (.cells #[.float .f32 (x.fl i), .float .f32 (y.fl j)] 22))) := by
  have h := row_two (w.alloc (.cells #[v] 22)) x y i j
  have e : (w.alloc (.cells #[v] 22)).heap.size = w.heap.size + 1 := Array.size_push ..
  rw [e] at h
  have := areFinite_any [x, y] (w.heap.size + 1) 0 2 _ m h (by simp)
  simpa using this

set_option maxHeartbeats 800000 in
theorem implFit_any (p : Option Addr) (c : Nat) (xs : List (FV .f32)) (w : World) (m : Nat) (hin : In32 w p xs) (hl : xs.length ≤ 1048576) :
    Calls Try.prog 30 #[.slice p xs.length c] (w.drewN m) (RetFFBb (orZero (fitOk xs) (fitPlace xs)) (orZero (fitOk xs) (fitScale xs)) (fitOk xs) w) := by
  have HI := Lib.hid hin
  clear hin
  have e2 : decide (2 ≤ xs.length) = decide ((2 : Int) ≤ (xs.length : Int)) := by rw [decide_eq_decide]; omega
  unfold fitOk fitGate
  rw [e2]
  cases h1 : gaugeB xs
  · simp only [Bool.false_and, orZero_false]
    go_enter Try.func30, Try.ntmps30
    go_wp2_with (go_at_call 75; refine (isGauge_any _ _ _ _ _ HI.out hl).mono ?_; rintro e w' ⟨n, rfl, rfl⟩)
    go_ret3
    exact ⟨0, 0, _, _, by rw [zero32]; rfl, rfl, Below.refl _ _⟩
  · by_cases h2 : (2 : Int) ≤ (xs.length : Int)
    · have b2 : decide ((xs.length : Int) < 2) = false := decide_eq_false (by omega)
      rw [decide_eq_true h2]
      cases h3 : (fitScale xs).isFin <;> cases h4 : (fitPlace xs).isFin
      all_goals
        simp only [Bool.and_true, Bool.and_false, orZero_false, orZero_true]
        unfold fitPlace fitScale fitDev at h4
        unfold fitScale fitDev at h3
        go_enter Try.func30, Try.ntmps30
        go_wp2_with (first | (go_at_call 75; refine (isGauge_any _ _ _ _ _ HI.out hl).mono ?_; rintro e w' ⟨n, rfl, rfl⟩) | (go_at_call 76; refine (mean_any _ _ _ _ _ HI.out hl).mono ?_; rintro e w' ⟨j, n, rfl, rfl⟩) | (go_at_call 78; refine (squares_new _ _ _ _ _ _ _ HI.out hl).mono ?_; rintro e w' ⟨j, n, rfl, rfl⟩) | (go_at_call 77; refine (rootNumber_any _ _ _ _).mono ?_; rintro e w' ⟨j, n, rfl, rfl⟩) | (go_at_call 58; refine (areFinite_two _ _ _ _ _ _ _).mono ?_; rintro e w' ⟨n, rfl, rfl⟩) | (refine wp_arith rfl rfl rfl rfl ?_; intro _ _))
        go_ret3
        first | exact ⟨_, _, _, _, rfl, rfl, ((Below.refl _ _).alloc (Nat.le_refl _) _).alloc (by simp) _⟩ | exact ⟨0, 0, _, _, by rw [zero32]; rfl, rfl, ((Below.refl _ _).alloc (Nat.le_refl _) _).alloc (by simp) _⟩
    · have b2 : decide ((xs.length : Int) < 2) = true := decide_eq_true (by omega)
      rw [decide_eq_false h2]
      simp only [Bool.false_and, Bool.and_false, orZero_false]
      go_enter Try.func30, Try.ntmps30
      go_wp2_with (go_at_call 75; refine (isGauge_any _ _ _ _ _ HI.out hl).mono ?_; rintro e w' ⟨n, rfl, rfl⟩)
      go_ret3
      exact ⟨0, 0, _, _, by rw [zero32]; rfl, rfl, Below.refl _ _⟩

end Go.Proofs.Ytnpgpkbnfibkkaa
