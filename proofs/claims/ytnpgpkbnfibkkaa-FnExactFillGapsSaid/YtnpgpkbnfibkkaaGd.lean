/- The walks: LogNumber; whether all of a list are finite, or at least 0; FloodOf. -/
import Derived.Test.YtnpgpkbnfibkkaaGc
namespace Go.Proofs.Ytnpgpkbnfibkkaa
open Go.RowKit Go.FV

theorem logNumber_any (x : FV .f32) (i : Nat) (w : World) (m : Nat) : Calls Try.prog 65 #[.float .f32 (x.fl i)] (w.drewN m) (RetF (logF x) w) := by
  rcases log_cases x with h | ⟨h, h1⟩ | ⟨h, h1, h2⟩ | ⟨h, h1, h2, h3, h4⟩ | ⟨h, h1, h2, h3, h4⟩
  · have g1 : (FV.cmp x x != some .eq) = true := by rw [isNaN_eq]; exact h
    rw [show logF x = conv .f32 (nan .f64) by unfold logF; rw [if_pos h, conv_nan]]
    clear h
    go_enter Try.func65, Try.ntmps65
    go_wp2_with (first | (go_at_call 102; refine (nan_any _ _).mono ?_; rintro e w' ⟨j, n, rfl, rfl⟩) | (refine wp_conv (k := .f64) .f32 rfl rfl (by rw [Try.underlying26]; rfl) Try.underlying22 (by decide) (by rw [of_fl]; decide) ?_; intro _ _))
    go_ret
    exact ⟨_, _, rfl, rfl⟩
  · have g1 : (FV.cmp x x != some .eq) = false := by rw [isNaN_eq]; exact h
    rw [show logF x = conv .f32 (nan .f64) by unfold logF; simp only [h, h1, Bool.false_eq_true, if_false, if_true, conv_nan]]
    unfold FV.lt at h1
    clear h
    go_enter Try.func65, Try.ntmps65
    go_wp2_with (first | (go_at_call 102; refine (nan_any _ _).mono ?_; rintro e w' ⟨j, n, rfl, rfl⟩) | (refine wp_conv (k := .f64) .f32 rfl rfl (by rw [Try.underlying26]; rfl) Try.underlying22 (by decide) (by rw [of_fl]; decide) ?_; intro _ _))
    go_ret
    exact ⟨_, _, rfl, rfl⟩
  · have g1 : (FV.cmp x x != some .eq) = false := by rw [isNaN_eq]; exact h
    rw [show logF x = conv .f32 minusInf by unfold logF; simp only [h, h1, h2, Bool.false_eq_true, if_false, if_true]]
    unfold FV.lt at h1
    unfold FV.eq at h2
    clear h
    go_enter Try.func65, Try.ntmps65
    go_wp2_with (first | (go_at_call 100; refine (inf_any _ _).mono ?_; rintro e w' ⟨j, n, rfl, rfl⟩) | (refine wp_conv (k := .f64) .f32 rfl rfl (by rw [Try.underlying26]; rfl) Try.underlying22 (by decide) (by rw [of_fl]; decide) ?_; intro _ _))
    go_ret
    exact ⟨_, _, rfl, rfl⟩
  · have g1 : (FV.cmp x x != some .eq) = false := by rw [isNaN_eq]; exact h
    rw [show logF x = x by unfold logF; simp only [h, h1, h2, h3, Bool.false_eq_true, if_false, if_true]]
    unfold FV.lt at h1
    unfold FV.eq at h2
    clear h h4
    go_enter Try.func65, Try.ntmps65
    go_wp2_with (go_at_call 68; refine (isFinite_any _ _ _ _).mono ?_; rintro e w' ⟨n, rfl, rfl⟩)
    go_ret
    exact ⟨_, _, rfl, rfl⟩
  · have g1 : (FV.cmp x x != some .eq) = false := by rw [isNaN_eq]; exact h
    rw [show logF x = conv .f32 (logV (conv .f64 x)) by unfold logF; simp only [h, h1, h2, h3, Bool.false_eq_true, Bool.true_eq_false, if_false]]
    have hf := Lib.hid ((logF_pos h3 h4).fits (k' := .f32) (by decide))
    have H3 := Lib.hid h3
    have H4 := Lib.hid h4
    unfold FV.lt at h1
    unfold FV.eq at h2
    clear h h4
    go_enter Try.func65, Try.ntmps65
    go_wp2_with (first | (go_at_call 68; refine (isFinite_any _ _ _ _).mono ?_; rintro e w' ⟨n, rfl, rfl⟩) | (go_at_call 103; refine (logarithm_pos _ H3.out H4.out _ _ _).mono ?_; rintro e w' ⟨j, n, rfl, rfl⟩) | (refine wp_conv (k := .f64) .f32 rfl rfl (by rw [Try.underlying26]; rfl) Try.underlying22 (by decide) (by rw [of_fl]; exact hf.out) ?_; intro _ _))
    go_ret
    exact ⟨_, _, rfl, rfl⟩

/-- The cells of a row of floats. -/
def Row32 (w : World) (b off : Nat) (xs : List (FV .f32)) : Prop := ∀ k x, xs[k]? = some x → ∃ j, w.cell? ⟨b, off + k, none⟩ = some (.float .f32 (x.fl j))

theorem areFinite1_any (x : FV .f32) (i : Nat) (w : World) (m : Nat) : Calls Try.prog 99 #[.float .f32 (x.fl i)] (w.drewN m) (RetB (!x.isFin) w) := by
  go_enter Try.func99, Try.ntmps99
  go_wp2_with (go_at_call 68; refine (isFinite_any _ _ _ _).mono ?_; rintro e w' ⟨n, rfl, rfl⟩)
  go_ret
  exact ⟨_, rfl, rfl⟩

/-- Returns an int. -/
def RetI (v : Int) (w : World) (e : Ending) (w' : World) : Prop := ∃ n, e = .returned (.int .i64 v) ∧ w' = w.drewN n

def idxOf (p : FV .f32 → Bool) (xs : List (FV .f32)) : Int := match xs.findIdx? p with | some k => k | none => -1

theorem idxOf_found {p : FV .f32 → Bool} : ∀ {xs : List (FV .f32)} {n : Nat}, (∀ j x, j < n → xs[j]? = some x → p x = false) → (∀ x, xs[n]? = some x → p x = true) → n < xs.length → idxOf p xs = n := by
  intro xs n h1 h2 h3
  unfold idxOf
  have : xs.findIdx? p = some n := by
    rw [List.findIdx?_eq_some_iff_getElem]
    refine ⟨h3, h2 _ (List.getElem?_eq_getElem h3), fun j hj => ?_⟩
    rw [h1 j xs[j] hj (List.getElem?_eq_getElem (by omega))]; simp
  rw [this]

theorem idxOf_none {p : FV .f32 → Bool} {xs : List (FV .f32)} (h : ∀ (j : Nat) x, xs[j]? = some x → p x = false) : idxOf p xs = -1 := by
  unfold idxOf
  have : xs.findIdx? p = none := by
    rw [List.findIdx?_eq_none_iff]
    intro x hx
    obtain ⟨j, hj, rfl⟩ := List.getElem_of_mem hx
    exact h j _ (List.getElem?_eq_getElem hj)
  rw [this]

theorem idxOf_neg {p : FV .f32 → Bool} {xs : List (FV .f32)} : decide (0 ≤ idxOf p xs) = xs.any p := by
  unfold idxOf
  cases h : xs.findIdx? p with
  | none =>
    rw [List.findIdx?_eq_none_iff] at h
    have : xs.any p = false := by
      rw [List.any_eq_false]; intro x hx; rw [h x hx]; simp
    rw [this]; rfl
  | some n =>
    rw [List.findIdx?_eq_some_iff_getElem] at h
    obtain ⟨h1, h2, -⟩ := h
    have : xs.any p = true := List.any_eq_true.2 ⟨xs[n], List.getElem_mem h1, h2⟩
    rw [this]; simp

theorem indexFunc99_any (xs : List (FV .f32)) (b off c : Nat) (w : World) (m : Nat) (hr : Row32 w b off xs) (hl : xs.length ≤ 9223372036854775807) :
    Calls Try.prog 114 #[.slice (some ⟨b, off, none⟩) xs.length c, .func (.func 99) #[] #[]] (w.drewN m) (RetI (idxOf (fun x => !FV.isFin x) xs) w) := by
  have H := Lib.hid hr
  clear hr
  go_enter Try.func114, Try.ntmps114
  go_wp2_with (fail)
  go_loopw [8] (fun k wr => ∃ n : Nat, n ≤ xs.length ∧ (∀ j x, j < n → xs[j]? = some x → (!FV.isFin x) = false) ∧ k = .int .i64 n ∧ ∃ q, wr = w.drewN q) (fun k _ => xs.length - (intOf k).toNat)
  case atStart => exact ⟨0, Nat.zero_le _, fun j x h => by omega, rfl, _, rfl⟩
  case round =>
    obtain ⟨n, hn, hall, rfl, q, rfl⟩ := hrel
    have HA := Lib.hid hall
    clear hall
    by_cases hlt : n < xs.length
    · obtain ⟨j, hcell⟩ := H.out n xs[n] (List.getElem?_eq_getElem hlt)
      have hcell2 : (w.drewN q).cell? ⟨b, off + n, none⟩ = some (.float .f32 (xs[n].fl j)) := hcell
      have hg := Lib.hid (List.getElem?_eq_getElem hlt)
      generalize xs[n] = x at *
      cases hf : FV.isFin x
      · go_wp2_with (go_at_call 99; refine (areFinite1_any _ _ _ _).mono ?_; rintro e w' ⟨q2, rfl, rfl⟩)
        go_ret
        refine ⟨_, ?_, rfl⟩
        rw [idxOf_found HA.out (fun y hy => by rw [hg.out] at hy; cases hy; rw [hf]; rfl) hlt]; rfl
      · go_wp2_with (go_at_call 99; refine (areFinite1_any _ _ _ _).mono ?_; rintro e w' ⟨q2, rfl, rfl⟩)
        go_roundw
        case rel =>
          refine ⟨n + 1, by omega, fun j y hj hy => ?_, by go_num, _, rfl⟩
          by_cases hjn : j < n
          · exact HA.out j y hjn hy
          · obtain rfl : j = n := by omega
            rw [hg.out] at hy; cases hy; rw [hf]; rfl
        case measure => simp [intOf]; omega
    · obtain rfl : n = xs.length := by omega
      go_wp2_with (fail)
      go_ret
      refine ⟨_, ?_, rfl⟩
      rw [idxOf_none fun j y hy => HA.out j y (by rcases List.getElem?_eq_some_iff.1 hy with ⟨hj, -⟩; exact hj) hy]; rfl

theorem containsFunc99_any (xs : List (FV .f32)) (b off c : Nat) (w : World) (m : Nat) (hr : Row32 w b off xs) (hl : xs.length ≤ 9223372036854775807) :
    Calls Try.prog 98 #[.slice (some ⟨b, off, none⟩) xs.length c, .func (.func 99) #[] #[]] (w.drewN m) (RetB (xs.any fun x => !FV.isFin x) w) := by
  have H := Lib.hid hr
  clear hr
  go_enter Try.func98, Try.ntmps98
  go_wp2_with (go_at_call 114; refine (indexFunc99_any _ _ _ _ _ _ H.out hl).mono ?_; rintro e w' ⟨q, rfl, rfl⟩)
  go_ret
  exact ⟨_, by rw [← idxOf_neg]; rfl, rfl⟩

/-- All of a list. -/
theorem areFinite_any (xs : List (FV .f32)) (b off c : Nat) (w : World) (m : Nat) (hr : Row32 w b off xs) (hl : xs.length ≤ 9223372036854775807) :
    Calls Try.prog 58 #[.slice (some ⟨b, off, none⟩) xs.length c] (w.drewN m) (RetB (xs.all fun x => FV.isFin x) w) := by
  have H := Lib.hid hr
  clear hr
  go_enter Try.func58, Try.ntmps58
  go_wp2_with (go_at_call 98; refine (containsFunc99_any _ _ _ _ _ _ H.out hl).mono ?_; rintro e w' ⟨q, rfl, rfl⟩)
  go_ret
  exact ⟨_, by rw [show (xs.all fun x => FV.isFin x) = !(xs.any fun x => !FV.isFin x) by simp [List.all_eq_not_any_not]]; rfl, rfl⟩

theorem areMasses1_any (x : FV .f32) (i : Nat) (w : World) (m : Nat) : Calls Try.prog 121 #[.float .f32 (x.fl i)] (w.drewN m) (RetB (!least x) w) := by
  go_enter Try.func121, Try.ntmps121
  go_wp2_with (go_at_call 64; refine (aMass_any _ _ _ _).mono ?_; rintro e w' ⟨n, rfl, rfl⟩)
  go_ret
  exact ⟨_, rfl, rfl⟩

theorem indexFunc121_any (xs : List (FV .f32)) (b off c : Nat) (w : World) (m : Nat) (hr : Row32 w b off xs) (hl : xs.length ≤ 9223372036854775807) :
    Calls Try.prog 114 #[.slice (some ⟨b, off, none⟩) xs.length c, .func (.func 121) #[] #[]] (w.drewN m) (RetI (idxOf (fun x => !least x) xs) w) := by
  have H := Lib.hid hr
  clear hr
  go_enter Try.func114, Try.ntmps114
  go_wp2_with (fail)
  go_loopw [8] (fun k wr => ∃ n : Nat, n ≤ xs.length ∧ (∀ j x, j < n → xs[j]? = some x → (!least x) = false) ∧ k = .int .i64 n ∧ ∃ q, wr = w.drewN q) (fun k _ => xs.length - (intOf k).toNat)
  case atStart => exact ⟨0, Nat.zero_le _, fun j x h => by omega, rfl, _, rfl⟩
  case round =>
    obtain ⟨n, hn, hall, rfl, q, rfl⟩ := hrel
    have HA := Lib.hid hall
    clear hall
    by_cases hlt : n < xs.length
    · obtain ⟨j, hcell⟩ := H.out n xs[n] (List.getElem?_eq_getElem hlt)
      have hcell2 : (w.drewN q).cell? ⟨b, off + n, none⟩ = some (.float .f32 (xs[n].fl j)) := hcell
      have hg := Lib.hid (List.getElem?_eq_getElem hlt)
      generalize xs[n] = x at *
      cases hf : least x
      · go_wp2_with (go_at_call 121; refine (areMasses1_any _ _ _ _).mono ?_; rintro e w' ⟨q2, rfl, rfl⟩)
        go_ret
        refine ⟨_, ?_, rfl⟩
        rw [idxOf_found HA.out (fun y hy => by rw [hg.out] at hy; cases hy; rw [hf]; rfl) hlt]; rfl
      · go_wp2_with (go_at_call 121; refine (areMasses1_any _ _ _ _).mono ?_; rintro e w' ⟨q2, rfl, rfl⟩)
        go_roundw
        case rel =>
          refine ⟨n + 1, by omega, fun j y hj hy => ?_, by go_num, _, rfl⟩
          by_cases hjn : j < n
          · exact HA.out j y hjn hy
          · obtain rfl : j = n := by omega
            rw [hg.out] at hy; cases hy; rw [hf]; rfl
        case measure => simp [intOf]; omega
    · obtain rfl : n = xs.length := by omega
      go_wp2_with (fail)
      go_ret
      refine ⟨_, ?_, rfl⟩
      rw [idxOf_none fun j y hy => HA.out j y (by rcases List.getElem?_eq_some_iff.1 hy with ⟨hj, -⟩; exact hj) hy]; rfl

theorem containsFunc121_any (xs : List (FV .f32)) (b off c : Nat) (w : World) (m : Nat) (hr : Row32 w b off xs) (hl : xs.length ≤ 9223372036854775807) :
    Calls Try.prog 98 #[.slice (some ⟨b, off, none⟩) xs.length c, .func (.func 121) #[] #[]] (w.drewN m) (RetB (xs.any fun x => !least x) w) := by
  have H := Lib.hid hr
  clear hr
  go_enter Try.func98, Try.ntmps98
  go_wp2_with (go_at_call 114; refine (indexFunc121_any _ _ _ _ _ _ H.out hl).mono ?_; rintro e w' ⟨q, rfl, rfl⟩)
  go_ret
  exact ⟨_, by rw [← idxOf_neg]; rfl, rfl⟩

/-- All of a list. -/
theorem areMasses_any (xs : List (FV .f32)) (b off c : Nat) (w : World) (m : Nat) (hr : Row32 w b off xs) (hl : xs.length ≤ 9223372036854775807) :
    Calls Try.prog 107 #[.slice (some ⟨b, off, none⟩) xs.length c] (w.drewN m) (RetB (xs.all fun x => least x) w) := by
  have H := Lib.hid hr
  clear hr
  go_enter Try.func107, Try.ntmps107
  go_wp2_with (go_at_call 98; refine (containsFunc121_any _ _ _ _ _ _ H.out hl).mono ?_; rintro e w' ⟨q, rfl, rfl⟩)
  go_ret
  exact ⟨_, by rw [show (xs.all fun x => least x) = !(xs.any fun x => !least x) by simp [List.all_eq_not_any_not]]; rfl, rfl⟩

end Go.Proofs.Ytnpgpkbnfibkkaa
