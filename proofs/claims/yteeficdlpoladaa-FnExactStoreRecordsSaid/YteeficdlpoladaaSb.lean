/- The walks: whether a record is valid. -/
import Derived.Test.YteeficdlpoladaaSa
import Derived.Test.YteeficdlpoladaaRh
namespace Go.Proofs.Yteeficdlpoladaa
open Go.RowKit Go.FV

theorem in_any (n l h : Int) (w : World) : Calls Try.prog 32 #[.int .i64 n, .int .i64 l, .int .i64 h] w (fun e w' => e = .returned (.bool (inB n l h)) ∧ w' = w) := by
  cases h1 : decide (l ≤ n)
  all_goals
    have H1 := Lib.hid h1
    go_enter Try.func32, Try.ntmps32
    go_wp2_with (fail)
    go_ret
    exact ⟨by unfold inB; rw [H1.out]; rfl, rfl⟩
theorem within_any (n l h : Int) (w : World) : Calls Try.prog 38 #[.int .i64 n, .int .i64 l, .int .i64 h] w (fun e w' => e = .returned (.bool (inB n l h)) ∧ w' = w) := by
  cases h1 : decide (l ≤ n)
  all_goals
    have H1 := Lib.hid h1
    go_enter Try.func38, Try.ntmps38
    go_wp2_with (fail)
    go_ret
    exact ⟨by unfold inB; rw [H1.out]; rfl, rfl⟩

theorem values_any (p : Option Addr) (n c : Nat) (w : World) : Calls Try.prog 33 #[.slice p n c] w (fun e w' => e = .returned (.bool (inB (n : Int) 1 128)) ∧ w' = w) := by
  cases h1 : decide ((1 : Int) ≤ (n : Int))
  all_goals
    have H1 := Lib.hid h1
    go_enter Try.func33, Try.ntmps33
    go_wp2_with (fail)
    go_ret
    exact ⟨by unfold inB; rw [H1.out]; rfl, rfl⟩
theorem isMany_any (p : Option Addr) (n c : Nat) (w : World) : Calls Try.prog 39 #[.slice p n c, .int .i64 1] w (fun e w' => e = .returned (.bool (inB (n : Int) 1 128)) ∧ w' = w) := by
  go_enter Try.func39, Try.ntmps39
  go_wp2_with (go_at_call 38; refine (within_any _ _ _ _).mono ?_; rintro e w' ⟨rfl, rfl⟩)
  go_ret
  exact ⟨rfl, rfl⟩

def letterB (b : UInt8) : Bool := decide (97 ≤ (b.toNat : Int)) && decide ((b.toNat : Int) ≤ 122)

theorem name_split (s : ByteArray) : nameOk s = (s.data.toList.all letterB && (decide (1 ≤ (s.size : Int)) && decide ((s.size : Int) ≤ 8))) := rfl

theorem l07Name_any (s : ByteArray) (w : World) (hs : s.size ≤ 1048576) : Calls Try.prog 31 #[.string s] w (fun e w' => e = .returned (.bool (nameOk s)) ∧ w' = w) := by
  go_enter Try.func31, Try.ntmps31
  go_wp2_with (fail)
  go_loop [3] (fun i => ∃ n : Nat, n ≤ s.size ∧ i = .int .i64 n ∧ Hid ((s.data.toList.take n).all letterB = true)) (fun i => s.size - (intOf i).toNat)
  case atStart => exact ⟨0, Nat.zero_le _, rfl, rfl⟩
  case round =>
    obtain ⟨n, hn, rfl, HA⟩ := hrel
    by_cases hlt : n < s.size
    · have HX := Lib.hid (show s.data.toList[n]? = some s[n] by rw [List.getElem?_eq_getElem (by simpa using hlt)]; rfl)
      by_cases h1 : (s[n].toNat : Int) < 97
      · have HF : Hid (letterB s[n] = false) := by show letterB s[n] = false; unfold letterB; rw [decide_eq_false (by omega)]; rfl
        go_wp2_with (fail)
        go_ret
        exact ⟨by rw [name_split, not_all HX.out HF.out]; rfl, rfl⟩
      · by_cases h2 : 122 < (s[n].toNat : Int)
        · have HF : Hid (letterB s[n] = false) := by show letterB s[n] = false; unfold letterB; rw [decide_eq_false (show ¬ (s[n].toNat : Int) ≤ 122 by omega), Bool.and_false]
          go_wp2_with (fail)
          go_ret
          exact ⟨by rw [name_split, not_all HX.out HF.out]; rfl, rfl⟩
        · have HF : Hid (letterB s[n] = true) := by show letterB s[n] = true; unfold letterB; rw [decide_eq_true (by omega), decide_eq_true (by omega)]; rfl
          go_wp2_with (fail)
          go_round
          case rel => exact ⟨n + 1, by omega, by go_num, all_take_snoc HX.out HA.out HF.out⟩
          case measure => simp [intOf]; omega
    · obtain rfl : n = s.size := by omega
      have ha := HA.out
      rw [List.take_of_length_le (by simp)] at ha
      have HA2 := Lib.hid ha
      clear ha
      cases h1 : decide ((1 : Int) ≤ (s.size : Int))
      all_goals
        have H1 := Lib.hid h1
        go_wp2_with (fail)
        go_ret
        exact ⟨by rw [name_split, HA2.out, H1.out]; rfl, rfl⟩
theorem isName_any (s : ByteArray) (w : World) (hs : s.size ≤ 1048576) : Calls Try.prog 37 #[.string s] w (fun e w' => e = .returned (.bool (nameOk s)) ∧ w' = w) := by
  go_enter Try.func37, Try.ntmps37
  go_wp2_with (fail)
  go_loop [6] (fun i => ∃ n : Nat, n ≤ s.size ∧ i = .int .i64 n ∧ Hid ((s.data.toList.take n).all letterB = true)) (fun i => s.size - (intOf i).toNat)
  case atStart => exact ⟨0, Nat.zero_le _, rfl, rfl⟩
  case round =>
    obtain ⟨n, hn, rfl, HA⟩ := hrel
    by_cases hlt : n < s.size
    · have HX := Lib.hid (show s.data.toList[n]? = some s[n] by rw [List.getElem?_eq_getElem (by simpa using hlt)]; rfl)
      have hlt' : (n : Int) < (s.size : Int) := by omega
      by_cases h1 : (s[n].toNat : Int) < 97
      · have HF : Hid (letterB s[n] = false) := by show letterB s[n] = false; unfold letterB; rw [decide_eq_false (by omega)]; rfl
        go_wp2_with (fail)
        go_ret
        exact ⟨by rw [name_split, not_all HX.out HF.out]; rfl, rfl⟩
      · by_cases h2 : 122 < (s[n].toNat : Int)
        · have HF : Hid (letterB s[n] = false) := by show letterB s[n] = false; unfold letterB; rw [decide_eq_false (show ¬ (s[n].toNat : Int) ≤ 122 by omega), Bool.and_false]
          go_wp2_with (fail)
          go_ret
          exact ⟨by rw [name_split, not_all HX.out HF.out]; rfl, rfl⟩
        · have HF : Hid (letterB s[n] = true) := by show letterB s[n] = true; unfold letterB; rw [decide_eq_true (by omega), decide_eq_true (by omega)]; rfl
          go_wp2_with (fail)
          go_round
          case rel => exact ⟨n + 1, by omega, by go_num, all_take_snoc HX.out HA.out HF.out⟩
          case measure => simp [intOf]; omega
    · obtain rfl : n = s.size := by omega
      have ha := HA.out
      rw [List.take_of_length_le (by simp)] at ha
      have HA2 := Lib.hid ha
      clear ha
      cases h1 : decide ((1 : Int) ≤ (s.size : Int))
      all_goals
        have H1 := Lib.hid h1
        go_wp2_with (fail)
        go_ret
        exact ⟨by rw [name_split, HA2.out, H1.out]; rfl, rfl⟩

set_option maxHeartbeats 1000000 in
theorem l07Record_any (r : Rec) (b o : Nat) (w : World) (m : Nat) (hr : RecAt w b o r) (hs : r.name.size ≤ 1048576) :
    Calls Try.prog 19 #[.pointer (some ⟨b, o, none⟩)] (w.drewN m) (RetB (validR r) w) := by
  obtain ⟨c0, c1, c2, pv, cv, c3, -⟩ := hr
  cases h1 : nameOk r.name
  · have H1 := Lib.hid h1
    go_enter Try.func19, Try.ntmps19
    go_wp2_with (first | (go_at_call 31; refine (l07Name_any _ _ hs).mono ?_; rintro e w' ⟨rfl, rfl⟩))
    go_ret
    exact ⟨_, by unfold validR; rw [H1.out]; rfl, rfl⟩
  · have H1 := Lib.hid h1
    cases h2 : inB r.start 0 4294967295
    · have H2 := Lib.hid h2
      go_enter Try.func19, Try.ntmps19
      go_wp2_with (first | (go_at_call 31; refine (l07Name_any _ _ hs).mono ?_; rintro e w' ⟨rfl, rfl⟩) | (go_at_call 32; refine (in_any _ _ _ _).mono ?_; rintro e w' ⟨rfl, rfl⟩))
      go_ret
      exact ⟨_, by unfold validR; rw [H1.out, H2.out]; rfl, rfl⟩
    · have H2 := Lib.hid h2
      cases h3 : inB r.step 1 65535
      all_goals
        have H3 := Lib.hid h3
        go_enter Try.func19, Try.ntmps19
        go_wp2_with (first | (go_at_call 31; refine (l07Name_any _ _ hs).mono ?_; rintro e w' ⟨rfl, rfl⟩) | (go_at_call 32; refine (in_any _ _ _ _).mono ?_; rintro e w' ⟨rfl, rfl⟩) | (go_at_call 33; refine (values_any _ _ _ _).mono ?_; rintro e w' ⟨rfl, rfl⟩))
        go_ret
        exact ⟨_, by unfold validR; rw [H1.out, H2.out, H3.out]; rfl, rfl⟩
end Go.Proofs.Yteeficdlpoladaa
