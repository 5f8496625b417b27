/- The walks: FloodOf, sameFloat. -/
import Derived.Test.YtnpgpkbnfibkkaaGd
namespace Go.Proofs.Ytnpgpkbnfibkkaa
open Go.RowKit Go.FV

abbrev one32 : FV .f32 := of .f32 1065353216

def floodR (place scale years : FV .f32) : FV .f32 := sub place (mul scale (logF (neg (logF (sub one32 (div one32 years))))))
def floodOk (place scale years : FV .f32) : Bool := place.isFin && least scale && years.isFin && FV.gt years one32

theorem zero32 (j : Nat) : fl (of .f32 0) j = 0 := fl_lit (by decide) (by decide) j

/-- A number and whether it is: behind a condition. -/
def condF (c : Bool) (x : FV .f32) : FV .f32 := if c = true then told x else of .f32 0
theorem condF_false (x : FV .f32) : condF false x = of .f32 0 := rfl
theorem condF_true (x : FV .f32) : condF true x = told x := rfl

theorem specFlood_any (p s y : FV .f32) (i1 i2 i3 : Nat) (w : World) (m : Nat) :
    Calls Try.prog 18 #[.float .f32 (p.fl i1), .float .f32 (s.fl i2), .float .f32 (y.fl i3)] (w.drewN m)
      (RetFB (condF (floodOk p s y) (floodR p s y)) (floodOk p s y && (floodR p s y).isFin) w) := by
  unfold floodOk
  cases h1 : p.isFin <;> cases h2 : least s <;> cases h3 : y.isFin <;> cases h4 : FV.gt y one32
  all_goals
    simp only [Bool.and_true, Bool.and_false, Bool.true_and, Bool.false_and, condF_false, condF_true]
    unfold FV.gt at h4
    go_enter Try.func18, Try.ntmps18
    go_wp2_with (first | (go_at_call 54; refine (l01Finite_any _ _ _ _).mono ?_; rintro e w' ⟨n, rfl, rfl⟩) | (go_at_call 62; refine (l02Least_any _ _ _ _).mono ?_; rintro e w' ⟨n, rfl, rfl⟩) | (go_at_call 63; refine (l01Log_any _ _ _ _).mono ?_; rintro e w' ⟨j, n, rfl, rfl⟩) | (go_at_call 57; refine (l02Number_any _ _ _ _).mono ?_; rintro e w' ⟨j, n, rfl, rfl⟩) | (refine wp_arith rfl rfl rfl rfl ?_; intro _ _) | (refine wp_neg rfl rfl ?_; intro _))
    go_ret2
  all_goals first | exact ⟨_, _, rfl, rfl⟩ | (refine ⟨0, _, ?_, rfl⟩; rw [zero32]; rfl)

def RetFBb (v : FV .f32) (b : Bool) (w : World) (e : Ending) (w' : World) : Prop := ∃ j w1 n, e = .returned (.tuple #[.float .f32 (v.fl j), .bool b]) ∧ w' = w1.drewN n ∧ Below w.heap.size w w1

/-- A new row of floats. -/
theorem row_new (w : World) (xs : List (FV .f32)) (vs : List Value) (h : ∀ (k : Nat) x, xs[k]? = some x → ∃ j, vs[k]? = some (.float .f32 (x.fl j))) :
    Row32 (w.alloc (.cells vs.toArray 22)) w.heap.size 0 xs := by
  intro k x hx
  obtain ⟨j, hj⟩ := h k x hx
  refine ⟨j, ?_⟩
  unfold World.cell? World.alloc
  simp [hj]

theorem row_two (w : World) (x y : FV .f32) (i j : Nat) : Row32 (w.alloc (.cells #[.float .f32 (x.fl i), .float .f32 (y.fl j)] 22)) w.heap.size 0 [x, y] :=
  row_new w [x, y] [.float .f32 (x.fl i), .float .f32 (y.fl j)] fun k z hz => by
    match k, hz with
    | 0, hz => cases hz; exact ⟨i, rfl⟩
    | 1, hz => cases hz; exact ⟨j, rfl⟩

theorem implFlood_any (p s y : FV .f32) (i1 i2 i3 : Nat) (w : World) (m : Nat) :
    Calls Try.prog 19 #[.float .f32 (p.fl i1), .float .f32 (s.fl i2), .float .f32 (y.fl i3)] (w.drewN m)
      (RetFBb (condF (floodOk p s y) (floodR p s y)) (floodOk p s y && (floodR p s y).isFin) w) := by
  unfold floodOk
  have hb : Below w.heap.size w (w.alloc (.cells #[.float .f32 (p.fl i1), .float .f32 (y.fl i3)] 22)) := (Below.refl _ _).alloc (Nat.le_refl _) _
  have HB := Lib.hid hb
  clear hb
  cases h1 : p.isFin <;> cases h2 : least s <;> cases h3 : y.isFin <;> cases h4 : FV.gt y one32
  all_goals
    simp only [Bool.and_true, Bool.and_false, Bool.true_and, Bool.false_and, condF_false, condF_true]
    unfold FV.gt at h4
    go_enter Try.func19, Try.ntmps19
    go_wp2_with (first | (go_at_call 58; refine (areFinite_any [p, y] _ _ _ _ _ (row_two _ _ _ _ _) (by simp)).mono ?_; rintro e w' ⟨n, rfl, rfl⟩) | (go_at_call 64; refine (aMass_any _ _ _ _).mono ?_; rintro e w' ⟨n, rfl, rfl⟩) | (go_at_call 65; refine (logNumber_any _ _ _ _).mono ?_; rintro e w' ⟨j, n, rfl, rfl⟩) | (go_at_call 60; refine (finite32_any _ _ _ _).mono ?_; rintro e w' ⟨j, n, rfl, rfl⟩) | (refine wp_arith rfl rfl rfl rfl ?_; intro _ _) | (refine wp_neg rfl rfl ?_; intro _))
    go_ret2
  all_goals first | exact ⟨_, _, _, rfl, rfl, HB.out⟩ | (refine ⟨0, _, _, ?_, rfl, HB.out⟩; rw [zero32]; rfl)

theorem sameFloat_any (x : FV .f64) (i j : Nat) (w : World) (m : Nat) : Calls Try.prog 17 #[.float .f64 (x.fl i), .float .f64 (x.fl j)] (w.drewN m) (RetB true w) := by
  cases hn : x.isNaN
  · have g1 : FV.cmp x x = some .eq := cmp_self hn
    cases h0 : (FV.cmp x (of .f64 0) == some .eq)
    · go_enter Try.func17, Try.ntmps17
      go_wp2_with (refine wp_arith rfl rfl rfl rfl ?_; intro _ _)
      go_ret
      exact ⟨_, rfl, rfl⟩
    · go_enter Try.func17, Try.ntmps17
      go_wp2_with (refine wp_arith rfl rfl rfl rfl ?_; intro _ _)
      go_ret
      exact ⟨_, rfl, rfl⟩
  · have g1 : (FV.cmp x x != some .eq) = true := by rw [isNaN_eq]; exact hn
    go_enter Try.func17, Try.ntmps17
    go_wp2_with (refine wp_arith rfl rfl rfl rfl ?_; intro _ _)
    go_ret
    exact ⟨_, rfl, rfl⟩

/-- A law returns true, and nothing that was there has turned. -/
def Holds (w : World) (e : Ending) (w' : World) : Prop := e = .returned (.bool true) ∧ Below w.heap.size w w'

theorem below_drawn {B : Nat} {w w1 : World} (h : Below B w w1) (n : Nat) : Below B w (w1.drewN n) := h.trans ⟨rfl, rfl, rfl, Nat.le_refl _, fun _ _ => rfl⟩

theorem lawFlood (p s y : FV .f32) (i1 i2 i3 : Nat) (w : World) :
    Calls Try.prog 4 #[.float .f32 (p.fl i1), .float .f32 (s.fl i2), .float .f32 (y.fl i3)] (w.drewN 0) (Holds w) := by
  go_enter Try.func4, Try.ntmps4
  go_wp2_with (first | (go_at_call 18; refine (specFlood_any _ _ _ _ _ _ _ _).mono ?_; rintro e w' ⟨j, n, rfl, rfl⟩) | (go_at_call 19; refine (implFlood_any _ _ _ _ _ _ _ _).mono ?_; rintro e w' ⟨j, w1, n, rfl, rfl, hb⟩) | (go_at_call 17; refine (sameFloat_any _ _ _ _ _).mono ?_; rintro e w' ⟨n, rfl, rfl⟩) | (refine wp_conv (k := .f32) .f64 rfl rfl (by rw [Try.underlying22]; rfl) Try.underlying26 (by decide) (by rw [of_fl]; exact fits_widen _) ?_; intro _ _))
  go_ret
  exact ⟨rfl, below_drawn hb _⟩
end Go.Proofs.Ytnpgpkbnfibkkaa
