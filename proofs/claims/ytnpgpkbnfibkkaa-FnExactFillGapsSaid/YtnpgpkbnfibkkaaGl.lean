/- The walks: RecedeRate. -/
import Derived.Test.YtnpgpkbnfibkkaaGk
import Derived.Deep.QuietTactic
import Derived.BigQuiet
namespace Go.Proofs.Ytnpgpkbnfibkkaa
open Go.RowKit Go.FV

theorem areLengths_any (p : Option Addr) (c : Nat) (xs : List (FV .f32)) (w : World) (m : Nat) (hin : In32 w p xs) (hl : xs.length ≤ 1048576) :
    Calls Try.prog 67 #[.slice p xs.length c] (w.drewN m) (RetB (xs.all above) w) := by
  have HI := Lib.hid hin
  clear hin
  go_enter Try.func67, Try.ntmps67
  go_wp2_with (fail)
  go_loopw [7] (fun k wr => ∃ (n : Nat) (q : Nat), n ≤ xs.length ∧ k = .int .i64 n ∧ wr = w.drewN q ∧ Hid ((xs.take n).all above = true)) (fun k _ => xs.length - (intOf k).toNat)
  case atStart => exact ⟨0, _, Nat.zero_le _, rfl, rfl, rfl⟩
  case round =>
    obtain ⟨n, q, hn, rfl, rfl, hall⟩ := hrel
    by_cases hlt : n < xs.length
    · obtain ⟨b, off, rfl, hb, hrow⟩ := HI.out (by intro e; rw [e] at hlt; simp at hlt)
      obtain ⟨j, hcell⟩ := hrow n xs[n] (List.getElem?_eq_getElem hlt)
      clear hrow
      have hg := Lib.hid (List.getElem?_eq_getElem hlt)
      generalize xs[n] = x at *
      cases hf : above x
      · go_wp2_with (go_at_call 59; refine (aLength_any _ _ _ _).mono ?_; rintro e w' ⟨q2, rfl, rfl⟩)
        go_ret
        exact ⟨_, by rw [not_all hg.out hf]; rfl, rfl⟩
      · go_wp2_with (go_at_call 59; refine (aLength_any _ _ _ _).mono ?_; rintro e w' ⟨q2, rfl, rfl⟩)
        go_roundw
        case rel => exact ⟨n + 1, _, by omega, by go_num, rfl, all_take_snoc hg.out hall.out hf⟩
        case measure => simp [intOf]; omega
    · obtain rfl : n = xs.length := by omega
      have ha : xs.all above = true := by have := hall.out; rwa [List.take_length] at this
      have HA := Lib.hid ha
      clear ha
      go_wp2_with (fail)
      go_ret
      exact ⟨_, by rw [HA.out]; rfl, rfl⟩

/-- The logarithms of the falls: of each value to the one ahead of it, where it is less. -/
def zeroF : FV .f32 := of .f32 0
def isFall (xs : List (FV .f32)) (n : Nat) : Bool := decide (0 < n) && FV.lt (xs.getD n zeroF) (xs.getD (n - 1) zeroF)
def fallLog (xs : List (FV .f32)) (n : Nat) : FV .f32 := logF (bin .quo (xs.getD n zeroF) (xs.getD (n - 1) zeroF))
def falls (xs : List (FV .f32)) : Nat → List (FV .f32)
  | 0 => []
  | n + 1 => if isFall xs n = true then falls xs n ++ [fallLog xs n] else falls xs n

theorem falls_le (xs : List (FV .f32)) : ∀ n, (falls xs n).length ≤ n
  | 0 => Nat.le_refl _
  | n + 1 => by
    have := falls_le xs n
    unfold falls
    split
    · rw [List.length_append]; simp; omega
    · omega
theorem sumF_append (l : List (FV .f32)) (x : FV .f32) : sumF (l ++ [x]) = bin .add (sumF l) x := by rw [sumF, List.foldl_append]; rfl

def recedeGate (xs : List (FV .f32)) : Bool := gaugeB xs && decide (2 ≤ xs.length) && xs.all above
def recedeOk (xs : List (FV .f32)) : Bool := recedeGate xs && !(falls xs xs.length).isEmpty
def recedeV (xs : List (FV .f32)) : FV .f32 := neg (meanF (falls xs xs.length))

theorem falls_zero (xs : List (FV .f32)) : falls xs 1 = [] := rfl
theorem getD_some {xs : List (FV .f32)} {n : Nat} {x : FV .f32} (h : xs[n]? = some x) : xs.getD n zeroF = x := by rw [List.getD_eq_getElem?_getD, h]; rfl
theorem falls_skip {xs : List (FV .f32)} {n : Nat} {x y : FV .f32} (hx : xs[n]? = some x) (hy : xs[n - 1]? = some y) (h : FV.lt x y = false) : falls xs (n + 1) = falls xs n := by
  rw [falls, isFall, getD_some hx, getD_some hy, h, Bool.and_false]; rfl
theorem falls_take {xs : List (FV .f32)} {n : Nat} {x y : FV .f32} (hx : xs[n]? = some x) (hy : xs[n - 1]? = some y) (h0 : 0 < n) (h : FV.lt x y = true) : falls xs (n + 1) = falls xs n ++ [logF (bin .quo x y)] := by
  rw [falls, isFall, fallLog, getD_some hx, getD_some hy, h, decide_eq_true h0]; rfl

theorem gauge_fin {xs : List (FV .f32)} {n : Nat} {x : FV .f32} (h : gaugeB xs = true) (hx : xs[n]? = some x) : above x = FV.gt x (of .f32 0) := by
  unfold gaugeB at h
  rw [Bool.and_eq_true] at h
  have := List.all_eq_true.1 h.2 x (List.mem_of_getElem? hx)
  unfold least at this
  rw [Bool.and_eq_true] at this
  rw [above, this.1, Bool.true_and]

section
attribute [local irreducible] Oper.wp
set_option maxHeartbeats 1600000 in
theorem specRecede_any (p : Option Addr) (c : Nat) (xs : List (FV .f32)) (w : World) (m : Nat) (hin : In32 w p xs) (hl : xs.length ≤ 1048576) :
    Calls Try.prog 40 #[.slice p xs.length c] (w.drewN m) (RetFB (condF (recedeOk xs) (recedeV xs)) (recedeOk xs && (recedeV xs).isFin) w) := by
  have HI := Lib.hid hin
  clear hin
  cases h1 : gaugeB xs
  · have e : recedeOk xs = false := by rw [recedeOk, recedeGate, h1]; rfl
    rw [e, condF_false, Bool.false_and]
    go_enter Try.func40, Try.ntmps40
    go_wp2_with (go_at_call 71; refine (l07Gauge_any _ _ _ _ _ HI.out hl).mono ?_; rintro e w' ⟨n, rfl, rfl⟩)
    go_ret2
    exact ⟨0, _, by rw [zero32]; rfl, rfl⟩
  · by_cases h2 : (2 : Int) ≤ (xs.length : Int)
    · have b2 : decide ((xs.length : Int) < 2) = false := decide_eq_false (by omega)
      have HG := Lib.hid h1
      go_enter Try.func40, Try.ntmps40
      go_wp2_with (go_at_call 71; refine (l07Gauge_any _ _ _ _ _ HI.out hl).mono ?_; rintro e w' ⟨n, rfl, rfl⟩)
      go_loopw [4, 5, 17] (fun s cn k wr => ∃ (n : Nat) (q : Nat), n ≤ xs.length ∧ k = .int .i64 n ∧ wr = w.drewN q ∧ (∃ j, s = .float .f32 ((sumF (falls xs n)).fl j)) ∧ cn = .int .i64 (falls xs n).length ∧ Hid ((xs.take n).all above = true)) (fun _ _ k _ => xs.length - (intOf k).toNat)
      case atStart => exact ⟨0, _, Nat.zero_le _, rfl, rfl, ⟨0, by rw [falls, show sumF [] = of .f32 0 from rfl, zero32]⟩, rfl, rfl⟩
      case round =>
        obtain ⟨n, q, hn, rfl, rfl, ⟨js, rfl⟩, rfl, hall⟩ := hrel
        by_cases hlt : n < xs.length
        · obtain ⟨b, off, rfl, hb, hrow⟩ := HI.out (by intro e; rw [e] at hlt; simp at hlt)
          obtain ⟨j, hcell⟩ := hrow n xs[n] (List.getElem?_eq_getElem hlt)
          have hg := Lib.hid (List.getElem?_eq_getElem hlt)
          have hle := falls_le xs n
          cases hgt : FV.gt xs[n] (of .f32 0)
          · have e : recedeOk xs = false := by rw [recedeOk, recedeGate, not_all hg.out (by rw [gauge_fin h1 hg.out]; exact hgt), Bool.and_false]; rfl
            rw [e, condF_false, Bool.false_and]
            clear hrow e
            generalize xs[n] = x at *
            unfold FV.gt at hgt
            go_wp2_with (fail)
            go_ret2
            exact ⟨0, _, by rw [zero32]; rfl, rfl⟩
          · have ha := Lib.hid (all_take_snoc hg.out hall.out (by rw [gauge_fin h1 hg.out]; exact hgt))
            by_cases h0 : 0 < n
            · have hlt' : n - 1 < xs.length := by omega
              obtain ⟨j', hcell'⟩ := hrow (n - 1) xs[n-1] (List.getElem?_eq_getElem hlt')
              have hg' := Lib.hid (List.getElem?_eq_getElem hlt')
              clear hrow
              have h0' : (0 : Int) < (n : Int) := by omega
              have h1' : (n : Int) < (xs.length : Int) := by omega
              have h2' : (n : Int) - 1 < (xs.length : Int) := by omega
              have h3' : (0 : Int) ≤ (n : Int) - 1 := by omega
              generalize xs[n] = x at *
              generalize xs[n-1] = y at *
              cases hf : FV.lt x y
              · have hfa := Lib.hid (falls_skip hg.out hg'.out hf)
                unfold FV.lt at hf
                unfold FV.gt at hgt
                go_wp2_with (fail)
                go_quiet (fail)
                go_wp2_with (fail)
                go_roundw
                case rel => exact ⟨n + 1, _, by omega, by go_num, rfl, ⟨js, by rw [hfa.out]⟩, by rw [hfa.out], ha.out⟩
                case measure => simp [intOf]; omega
              · have hfa := Lib.hid (falls_take hg.out hg'.out h0 hf)
                unfold FV.lt at hf
                unfold FV.gt at hgt
                go_wp2_with (fail)
                go_quiet (fail)
                go_wp2_with (fail)
                refine wp_region_inv2 (fun i v => match i with
                  | 0 => v = .float .f32 ((sumF (falls xs n)).fl js)
                  | 1 => v = .slice (some ⟨b, off, none⟩) xs.length c
                  | 2 => v = .int .i64 n
                  | 3 => v = .pointer (some ⟨b, off + n, none⟩)
                  | 4 => v = .float .f32 (x.fl j)
                  | 5 => v = .slice (some ⟨b, off, none⟩) xs.length c
                  | 6 => v = .int .i64 n
                  | 7 => v = .int .i64 ((n - 1 : Nat) : Int)
                  | 8 => v = .pointer (some ⟨b, off + (n - 1), none⟩)
                  | 9 => v = .float .f32 (y.fl j')
                  | 10 => ∃ i, v = .float .f32 ((bin .quo x y).fl i)
                  | 11 => ∃ i, v = .float .f32 ((logF (bin .quo x y)).fl i)
                  | _ => ∃ i, v = .float .f32 ((bin .add (sumF (falls xs n)) (logF (bin .quo x y))).fl i)) (fun _ w' => ∃ n, w' = w.drewN n) (by kernel_rfl) (by kernel_rfl) ⟨q + nq + 1, by rw [World.drewN_drewN]; rfl⟩ ?_ ?_
                · intro i o a w1 listed ho hC hnot hall1 hd hoff hlate hclos hdep
                  obtain ⟨q1, rfl⟩ := hC
                  have t0 := hoff 0 (by decide)
                  have t6 := hoff 6 (by decide)
                  match i, ho, hdep, hnot with
                  | 0, ho, hdep, hnot =>
                    cases ho
                    have e13 : listed.getD 13 false = false := by
                      cases h13 : listed.getD 13 false with
                      | false => rfl
                      | true =>
                        have h12 := hclos 13 _ rfl h13 ⟨12, .data⟩ (by simp) rfl
                        exact (hclos 12 _ rfl h12 ⟨0, .data⟩ (by simp) rfl).symm.trans hnot
                    have t4 := hlate 13 (by decide) e13
                    exact op_value rfl ⟨_, t4, rfl, _, rfl⟩
                  | 1, ho, hdep, _ => cases ho; exact op_value rfl ⟨_, t0, rfl, _, rfl⟩
                  | 2, ho, hdep, _ => cases ho; exact op_value rfl ⟨_, t6, rfl, _, rfl⟩
                  | 3, ho, hdep, _ =>
                    cases ho
                    have d0 : a.tmps.getD 41 undef = .slice (some ⟨b, off, none⟩) xs.length c := hdep ⟨1, .data⟩ (by simp) rfl
                    have d1 : a.tmps.getD 42 undef = .int .i64 n := hdep ⟨2, .data⟩ (by simp) rfl
                    exact op_value (exec_indexAddr d0 d1 hlt) ⟨_, rfl, rfl, _, rfl⟩
                  | 4, ho, hdep, _ =>
                    cases ho
                    have d0 : a.tmps.getD 43 undef = .pointer (some ⟨b, off + n, none⟩) := hdep ⟨3, .data⟩ (by simp) rfl
                    exact op_value (exec_load22 d0 hcell) ⟨_, rfl, rfl, _, rfl⟩
                  | 5, ho, hdep, _ => cases ho; exact op_value rfl ⟨_, t0, rfl, _, rfl⟩
                  | 6, ho, hdep, _ => cases ho; exact op_value rfl ⟨_, t6, rfl, _, rfl⟩
                  | 7, ho, hdep, _ =>
                    cases ho
                    have d0 : a.tmps.getD 46 undef = .int .i64 n := hdep ⟨6, .data⟩ (by simp) rfl
                    exact op_value (exec_sub1 d0 h0 (by omega)) ⟨_, rfl, rfl, _, rfl⟩
                  | 8, ho, hdep, _ =>
                    cases ho
                    have d0 : a.tmps.getD 45 undef = .slice (some ⟨b, off, none⟩) xs.length c := hdep ⟨5, .data⟩ (by simp) rfl
                    have d1 : a.tmps.getD 47 undef = .int .i64 ((n - 1 : Nat) : Int) := hdep ⟨7, .data⟩ (by simp) rfl
                    exact op_value (exec_indexAddr d0 d1 hlt') ⟨_, rfl, rfl, _, rfl⟩
                  | 9, ho, hdep, _ =>
                    cases ho
                    have d0 : a.tmps.getD 48 undef = .pointer (some ⟨b, off + (n - 1), none⟩) := hdep ⟨8, .data⟩ (by simp) rfl
                    exact op_value (exec_load22 d0 hcell') ⟨_, rfl, rfl, _, rfl⟩
                  | 10, ho, hdep, _ =>
                    cases ho
                    have d0 : a.tmps.getD 44 undef = .float .f32 (x.fl j) := hdep ⟨4, .data⟩ (by simp) rfl
                    have d1 : a.tmps.getD 49 undef = .float .f32 (y.fl j') := hdep ⟨9, .data⟩ (by simp) rfl
                    exact op_arith rfl d0 d1 fun j1 n1 => ⟨_, ⟨j1, rfl⟩, rfl, n1, rfl⟩
                  | 11, ho, hdep, _ =>
                    cases ho
                    obtain ⟨j1, d0⟩ : ∃ i, a.tmps.getD 50 undef = .float .f32 ((bin .quo x y).fl i) := hdep ⟨10, .data⟩ (by simp) rfl
                    exact op_call' (exec_call1 Try.func63 (by decide) rfl d0) ((l01Log_any _ _ _ _).mono fun e w' ⟨j2, n2, he, hw⟩ => ⟨_, he, _, ⟨j2, rfl⟩, rfl, n2, hw⟩)
                  | 12, ho, hdep, _ =>
                    cases ho
                    have d0 : a.tmps.getD 40 undef = .float .f32 ((sumF (falls xs n)).fl js) := hdep ⟨0, .data⟩ (by simp) rfl
                    obtain ⟨j1, d1⟩ : ∃ i, a.tmps.getD 51 undef = .float .f32 ((logF (bin .quo x y)).fl i) := hdep ⟨11, .data⟩ (by simp) rfl
                    exact op_arith rfl d0 d1 fun j1 n1 => ⟨_, ⟨j1, rfl⟩, rfl, n1, rfl⟩
                  | 13, ho, hdep, _ =>
                    cases ho
                    obtain ⟨j1, d1⟩ : ∃ i, a.tmps.getD 52 undef = .float .f32 ((bin .add (sumF (falls xs n)) (logF (bin .quo x y))).fl i) := hdep ⟨12, .data⟩ (by simp) rfl
                    exact op_value rfl ⟨_, ⟨j1, d1⟩, rfl, _, rfl⟩
                  | i + 14, ho, _, _ => cases ho
                · intro v hv w' listed _ hC
                  obtain ⟨q1, rfl⟩ := hC
                  obtain ⟨j1, e13⟩ : ∃ i, v 13 = .float .f32 ((bin .add (sumF (falls xs n)) (logF (bin .quo x y))).fl i) := hv 13 (by decide)
                  simp only [putAll, dstAt, List.size_toArray, List.length_cons, List.length_nil, Nat.reduceAdd, List.range_succ, List.range_zero, List.nil_append, List.cons_append, List.foldl_cons, List.foldl_nil, Act.put, List.getElem?_toArray, List.getElem?_cons_succ, List.getElem?_cons_zero, Option.bind_some, Option.getD_some, List.setIfInBounds_toArray, List.set_cons_succ, List.set_cons_zero, e13]
                  clear hv e13
                  go_wp2_with (fail)
                  go_roundw
                  case rel => exact ⟨n + 1, _, by omega, by go_num, rfl, ⟨j1, by rw [hfa.out, sumF_append]⟩, by rw [hfa.out, List.length_append]; rfl, ha.out⟩
                  case measure => simp [intOf]; omega
            · have hz0 := Lib.hid (show n = 0 by omega)
              have hfa := Lib.hid (show falls xs (n + 1) = falls xs n by rw [hz0.out]; rfl)
              have h0' : decide ((0 : Int) < (n : Int)) = false := decide_eq_false (by omega)
              have h1' : (n : Int) < (xs.length : Int) := by omega
              clear hrow
              generalize xs[n] = x at *
              unfold FV.gt at hgt
              go_wp2_with (fail)
              go_quiet (fail)
              go_wp2_with (fail)
              go_roundw
              case rel => exact ⟨n + 1, _, by omega, by go_num, rfl, ⟨js, by rw [hfa.out]⟩, by rw [hfa.out], ha.out⟩
              case measure => simp [intOf]; omega
        · obtain rfl : n = xs.length := by omega
          have ha : xs.all above = true := by have := hall.out; rwa [List.take_length] at this
          have e : recedeGate xs = true := by rw [recedeGate, h1, ha, decide_eq_true (show 2 ≤ xs.length by omega)]; rfl
          cases hem : (falls xs xs.length).isEmpty
          · have e2 : recedeOk xs = true := by rw [recedeOk, e, hem]; rfl
            have hz : (((falls xs xs.length).length : Int) == 0) = false := by
              refine beq_eq_false_iff_ne.2 fun h => ?_
              have h' : (falls xs xs.length).length = 0 := by omega
              rw [List.length_eq_zero_iff.1 h'] at hem; cases hem
            have E2 := Lib.hid e2
            clear e e2 hem
            go_wp2_with (first | (go_at_call 57; refine (l02Number_any _ _ _ _).mono ?_; rintro e w' ⟨j, n, rfl, rfl⟩) | (refine wp_arith rfl rfl rfl rfl ?_; intro _ _) | (refine wp_neg rfl rfl ?_; intro _))
            go_ret2
            exact ⟨_, _, by rw [E2.out, condF_true, Bool.true_and]; rfl, rfl⟩
          · have e2 : recedeOk xs = false := by rw [recedeOk, hem]; simp
            have hz : (((falls xs xs.length).length : Int) == 0) = true := by
              rw [List.isEmpty_iff.1 hem]; rfl
            have E2 := Lib.hid e2
            clear e e2 hem
            go_wp2_with (fail)
            go_ret2
            exact ⟨0, _, by rw [E2.out, condF_false, Bool.false_and, zero32]; rfl, rfl⟩
    · have b2 : decide ((xs.length : Int) < 2) = true := decide_eq_true (by omega)
      have e : recedeOk xs = false := by rw [recedeOk, recedeGate, decide_eq_false (show ¬ 2 ≤ xs.length by omega), Bool.and_false]; rfl
      rw [e, condF_false, Bool.false_and]
      go_enter Try.func40, Try.ntmps40
      go_wp2_with (go_at_call 71; refine (l07Gauge_any _ _ _ _ _ HI.out hl).mono ?_; rintro e w' ⟨n, rfl, rfl⟩)
      go_ret2
      exact ⟨0, _, by rw [zero32]; rfl, rfl⟩
end

end Go.Proofs.Ytnpgpkbnfibkkaa
