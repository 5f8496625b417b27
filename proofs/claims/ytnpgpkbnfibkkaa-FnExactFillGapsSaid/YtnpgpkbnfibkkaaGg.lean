/- The walks: gauges, means, sums of squares. -/
import Derived.Test.YtnpgpkbnfibkkaaGf
namespace Go.Proofs.Ytnpgpkbnfibkkaa
open Go.RowKit Go.FV

def gaugeB (xs : List (FV .f32)) : Bool := decide (1 ≤ xs.length) && decide (xs.length ≤ 128) && xs.all least

theorem take_snoc {α : Type} {l : List α} {n : Nat} {x : α} (h : l[n]? = some x) : l.take (n + 1) = l.take n ++ [x] := by
  rw [List.take_add_one, h]; rfl

theorem all_take_snoc {p : FV .f32 → Bool} {xs : List (FV .f32)} {n : Nat} {x : FV .f32} (h : xs[n]? = some x) (ha : (xs.take n).all p = true) (hx : p x = true) : (xs.take (n + 1)).all p = true := by
  rw [take_snoc h, List.all_append, ha]; simp [hx]

theorem not_all {p : FV .f32 → Bool} {xs : List (FV .f32)} {n : Nat} {x : FV .f32} (h : xs[n]? = some x) (hx : p x = false) : xs.all p = false := by
  rw [List.all_eq_false]
  exact ⟨x, List.mem_of_getElem? h, by rw [hx]; simp⟩

theorem l07Gauge_any (p : Option Addr) (c : Nat) (xs : List (FV .f32)) (w : World) (m : Nat) (hin : In32 w p xs) (hl : xs.length ≤ 1048576) :
    Calls Try.prog 71 #[.slice p xs.length c] (w.drewN m) (RetB (gaugeB xs) w) := by
  have HI := Lib.hid hin
  clear hin
  go_enter Try.func71, Try.ntmps71
  go_wp2_with (fail)
  go_loopw [4] (fun k wr => ∃ (n : Nat) (q : Nat), n ≤ xs.length ∧ k = .int .i64 n ∧ wr = w.drewN q ∧ Hid ((xs.take n).all least = true)) (fun k _ => xs.length - (intOf k).toNat)
  case atStart => exact ⟨0, _, Nat.zero_le _, rfl, rfl, rfl⟩
  case round =>
    obtain ⟨n, q, hn, rfl, rfl, hall⟩ := hrel
    by_cases hlt : n < xs.length
    · by_cases hm : xs.length ≤ 128
      · obtain ⟨b, off, rfl, hb, hrow⟩ := HI.out (by intro e; rw [e] at hlt; simp at hlt)
        obtain ⟨j, hcell⟩ := hrow n xs[n] (List.getElem?_eq_getElem hlt)
        clear hrow
        have hg := Lib.hid (List.getElem?_eq_getElem hlt)
        generalize xs[n] = x at *
        cases hf : least x
        · go_wp2_with (go_at_call 62; refine (l02Least_any _ _ _ _).mono ?_; rintro e w' ⟨q2, rfl, rfl⟩)
          go_ret
          exact ⟨_, by rw [gaugeB, not_all hg.out hf, Bool.and_false]; rfl, rfl⟩
        · go_wp2_with (go_at_call 62; refine (l02Least_any _ _ _ _).mono ?_; rintro e w' ⟨q2, rfl, rfl⟩)
          go_roundw
          case rel => exact ⟨n + 1, _, by omega, by go_num, rfl, all_take_snoc hg.out hall.out hf⟩
          case measure => simp [intOf]; omega
      · have b1 : decide ((xs.length : Int) ≤ 128) = false := decide_eq_false (by omega)
        go_wp2_with (fail)
        go_ret
        exact ⟨_, by rw [gaugeB, decide_eq_false hm, Bool.and_false, Bool.false_and]; rfl, rfl⟩
    · obtain rfl : n = xs.length := by omega
      have ha : xs.all least = true := by have := hall.out; rwa [List.take_length] at this
      have HA := Lib.hid ha
      clear ha
      by_cases h1 : 1 ≤ xs.length
      · by_cases hm : xs.length ≤ 128
        · have b1 : decide ((xs.length : Int) ≤ 128) = true := decide_eq_true (by omega)
          go_wp2_with (fail)
          go_ret
          exact ⟨_, by rw [gaugeB, decide_eq_true h1, decide_eq_true hm, HA.out]; rfl, rfl⟩
        · have b1 : decide ((xs.length : Int) ≤ 128) = false := decide_eq_false (by omega)
          go_wp2_with (fail)
          go_ret
          exact ⟨_, by rw [gaugeB, decide_eq_false hm, Bool.and_false, Bool.false_and]; rfl, rfl⟩
      · go_wp2_with (fail)
        go_ret
        exact ⟨_, by rw [gaugeB, decide_eq_false h1, Bool.false_and, Bool.false_and]; rfl, rfl⟩

theorem within_any (n l h : Int) (w : World) (m : Nat) : Calls Try.prog 87 #[.int .i64 n, .int .i64 l, .int .i64 h] (w.drewN m) (RetB (decide (l ≤ n) && decide (n ≤ h)) w) := by
  by_cases h1 : l ≤ n
  · have b1 : decide (l ≤ n) = true := decide_eq_true h1
    rw [b1, Bool.true_and]
    go_enter Try.func87, Try.ntmps87
    go_wp2_with (fail)
    go_ret
    exact ⟨_, rfl, rfl⟩
  · have b1 : decide (l ≤ n) = false := decide_eq_false h1
    rw [b1, Bool.false_and]
    go_enter Try.func87, Try.ntmps87
    go_wp2_with (fail)
    go_ret
    exact ⟨_, rfl, rfl⟩

theorem isMany_any (p : Option Addr) (c n : Nat) (l : Int) (w : World) (m : Nat) :
    Calls Try.prog 69 #[.slice p n c, .int .i64 l] (w.drewN m) (RetB (decide (l ≤ (n : Int)) && decide ((n : Int) ≤ 128)) w) := by
  go_enter Try.func69, Try.ntmps69
  go_wp2_with (go_at_call 87; refine (within_any _ _ _ _ _).mono ?_; rintro e w' ⟨q2, rfl, rfl⟩)
  go_ret
  exact ⟨_, rfl, rfl⟩

theorem isGauge_any (p : Option Addr) (c : Nat) (xs : List (FV .f32)) (w : World) (m : Nat) (hin : In32 w p xs) (hl : xs.length ≤ 1048576) :
    Calls Try.prog 75 #[.slice p xs.length c] (w.drewN m) (RetB (gaugeB xs) w) := by
  have e : gaugeB xs = (decide ((1 : Int) ≤ (xs.length : Int)) && decide ((xs.length : Int) ≤ 128) && xs.all least) := by
    unfold gaugeB
    congr 2
    · rw [decide_eq_decide]; omega
    · rw [decide_eq_decide]; omega
  rw [e]
  clear e
  have HI := Lib.hid hin
  clear hin
  by_cases h1 : 1 ≤ xs.length
  · by_cases h2 : xs.length ≤ 128
    · have b1 : decide ((1 : Int) ≤ (xs.length : Int)) = true := decide_eq_true (by omega)
      have b2 : decide ((xs.length : Int) ≤ 128) = true := decide_eq_true (by omega)
      obtain ⟨b, off, rfl, hb, hrow⟩ := HI.out (by intro e; rw [e] at h1; simp at h1)
      have HR := Lib.hid hrow
      clear hrow
      go_enter Try.func75, Try.ntmps75
      go_wp2_with (first | (go_at_call 69; refine (isMany_any _ _ _ _ _ _).mono ?_; rintro e w' ⟨q2, rfl, rfl⟩) | (go_at_call 107; refine (areMasses_any _ _ _ _ _ _ HR.out (by omega)).mono ?_; rintro e w' ⟨q2, rfl, rfl⟩))
      go_ret
      exact ⟨_, by rw [b1, b2]; rfl, rfl⟩
    · have b1 : decide ((xs.length : Int) ≤ 128) = false := decide_eq_false (by omega)
      go_enter Try.func75, Try.ntmps75
      go_wp2_with (go_at_call 69; refine (isMany_any _ _ _ _ _ _).mono ?_; rintro e w' ⟨q2, rfl, rfl⟩)
      go_ret
      exact ⟨_, by rw [b1, Bool.and_false, Bool.false_and]; rfl, rfl⟩
  · have b1 : decide ((1 : Int) ≤ (xs.length : Int)) = false := decide_eq_false (by omega)
    go_enter Try.func75, Try.ntmps75
    go_wp2_with (go_at_call 69; refine (isMany_any _ _ _ _ _ _).mono ?_; rintro e w' ⟨q2, rfl, rfl⟩)
    go_ret
    exact ⟨_, by rw [b1, Bool.false_and, Bool.false_and]; rfl, rfl⟩

/-- Sums from left to right. -/
def sumF (xs : List (FV .f32)) : FV .f32 := xs.foldl (fun s x => bin .add s x) (of .f32 0)
def meanF (xs : List (FV .f32)) : FV .f32 := bin .quo (sumF xs) (of .f32 (floatOfInt .f32 xs.length))
def sqF (m : FV .f32) (xs : List (FV .f32)) : FV .f32 := xs.foldl (fun s x => bin .add s (bin .mul (bin .sub x m) (bin .sub x m))) (of .f32 0)

theorem sumF_snoc {xs : List (FV .f32)} {n : Nat} {x : FV .f32} (h : xs[n]? = some x) : sumF (xs.take (n + 1)) = bin .add (sumF (xs.take n)) x := by
  rw [take_snoc h, sumF, List.foldl_append]; rfl
theorem sqF_snoc {m : FV .f32} {xs : List (FV .f32)} {n : Nat} {x : FV .f32} (h : xs[n]? = some x) : sqF m (xs.take (n + 1)) = bin .add (sqF m (xs.take n)) (bin .mul (bin .sub x m) (bin .sub x m)) := by
  rw [take_snoc h, sqF, List.foldl_append]; rfl

theorem l07Mean_any (p : Option Addr) (c : Nat) (xs : List (FV .f32)) (w : World) (m : Nat) (hin : In32 w p xs) (hl : xs.length ≤ 1048576) :
    Calls Try.prog 72 #[.slice p xs.length c] (w.drewN m) (RetF (meanF xs) w) := by
  have HI := Lib.hid hin
  clear hin
  go_enter Try.func72, Try.ntmps72
  go_wp2_with (fail)
  go_loopw [3, 7] (fun s k wr => ∃ (n : Nat) (q : Nat), n ≤ xs.length ∧ k = .int .i64 n ∧ wr = w.drewN q ∧ ∃ j, s = .float .f32 ((sumF (xs.take n)).fl j)) (fun _ k _ => xs.length - (intOf k).toNat)
  case atStart => exact ⟨0, _, Nat.zero_le _, rfl, rfl, 0, by rw [List.take_zero, show sumF [] = of .f32 0 from rfl, zero32]⟩
  case round =>
    obtain ⟨n, q, hn, rfl, rfl, js, rfl⟩ := hrel
    by_cases hlt : n < xs.length
    · obtain ⟨b, off, rfl, hb, hrow⟩ := HI.out (by intro e; rw [e] at hlt; simp at hlt)
      obtain ⟨j, hcell⟩ := hrow n xs[n] (List.getElem?_eq_getElem hlt)
      clear hrow
      have hg := Lib.hid (sumF_snoc (List.getElem?_eq_getElem hlt))
      generalize xs[n] = x at *
      generalize sumF (xs.take n) = s at *
      go_wp2_with (refine wp_arith rfl rfl rfl rfl ?_; intro _ _)
      go_roundw
      case rel => exact ⟨n + 1, _, by omega, by go_num, rfl, _, by rw [hg.out]⟩
      case measure => simp [intOf]; omega
    · obtain rfl : n = xs.length := by omega
      rw [List.take_length]
      go_wp2_with (refine wp_arith rfl rfl rfl rfl ?_; intro _ _)
      go_ret
      exact ⟨_, _, rfl, rfl⟩

theorem mean_any (p : Option Addr) (c : Nat) (xs : List (FV .f32)) (w : World) (m : Nat) (hin : In32 w p xs) (hl : xs.length ≤ 1048576) :
    Calls Try.prog 76 #[.slice p xs.length c] (w.drewN m) (RetF (meanF xs) w) := by
  have HI := Lib.hid hin
  clear hin
  go_enter Try.func76, Try.ntmps76
  go_wp2_with (fail)
  go_loopw [3, 8] (fun s k wr => ∃ (n : Nat) (q : Nat), n ≤ xs.length ∧ k = .int .i64 n ∧ wr = w.drewN q ∧ ∃ j, s = .float .f32 ((sumF (xs.take n)).fl j)) (fun _ k _ => xs.length - (intOf k).toNat)
  case atStart => exact ⟨0, _, Nat.zero_le _, rfl, rfl, 0, by rw [List.take_zero, show sumF [] = of .f32 0 from rfl, zero32]⟩
  case round =>
    obtain ⟨n, q, hn, rfl, rfl, js, rfl⟩ := hrel
    by_cases hlt : n < xs.length
    · obtain ⟨b, off, rfl, hb, hrow⟩ := HI.out (by intro e; rw [e] at hlt; simp at hlt)
      obtain ⟨j, hcell⟩ := hrow n xs[n] (List.getElem?_eq_getElem hlt)
      clear hrow
      have hg := Lib.hid (sumF_snoc (List.getElem?_eq_getElem hlt))
      generalize xs[n] = x at *
      generalize sumF (xs.take n) = s at *
      go_wp2_with (refine wp_arith rfl rfl rfl rfl ?_; intro _ _)
      go_roundw
      case rel => exact ⟨n + 1, _, by omega, by go_num, rfl, _, by rw [hg.out]⟩
      case measure => simp [intOf]; omega
    · obtain rfl : n = xs.length := by omega
      rw [List.take_length]
      go_wp2_with (refine wp_arith rfl rfl rfl rfl ?_; intro _ _)
      go_ret
      exact ⟨_, _, rfl, rfl⟩

theorem l07Squares_any (p : Option Addr) (c : Nat) (xs : List (FV .f32)) (y : FV .f32) (i : Nat) (w : World) (m : Nat) (hin : In32 w p xs) (hl : xs.length ≤ 1048576) :
    Calls Try.prog 74 #[.slice p xs.length c, .float .f32 (y.fl i)] (w.drewN m) (RetF (sqF y xs) w) := by
  have HI := Lib.hid hin
  clear hin
  go_enter Try.func74, Try.ntmps74
  go_wp2_with (fail)
  go_loopw [5, 10] (fun s k wr => ∃ (n : Nat) (q : Nat), n ≤ xs.length ∧ k = .int .i64 n ∧ wr = w.drewN q ∧ ∃ j, s = .float .f32 ((sqF y (xs.take n)).fl j)) (fun _ k _ => xs.length - (intOf k).toNat)
  case atStart => exact ⟨0, _, Nat.zero_le _, rfl, rfl, 0, by rw [List.take_zero, show sqF y [] = of .f32 0 from rfl, zero32]⟩
  case round =>
    obtain ⟨n, q, hn, rfl, rfl, js, rfl⟩ := hrel
    by_cases hlt : n < xs.length
    · obtain ⟨b, off, rfl, hb, hrow⟩ := HI.out (by intro e; rw [e] at hlt; simp at hlt)
      obtain ⟨j, hcell⟩ := hrow n xs[n] (List.getElem?_eq_getElem hlt)
      clear hrow
      have hg := Lib.hid (sqF_snoc (m := y) (List.getElem?_eq_getElem hlt))
      generalize xs[n] = x at *
      generalize sqF y (xs.take n) = s at *
      go_wp2_with (refine wp_arith rfl rfl rfl rfl ?_; intro _ _)
      go_roundw
      case rel => exact ⟨n + 1, _, by omega, by go_num, rfl, _, by rw [hg.out]⟩
      case measure => simp [intOf]; omega
    · obtain rfl : n = xs.length := by omega
      rw [List.take_length]
      go_wp2_with (refine wp_arith rfl rfl rfl rfl ?_; intro _ _)
      go_ret
      exact ⟨_, _, rfl, rfl⟩

end Go.Proofs.Ytnpgpkbnfibkkaa
