/- The walks: whether all records are valid, by the program. -/
import Derived.Test.YteeficdlpoladaaSb
namespace Go.Proofs.Yteeficdlpoladaa
open Go.RowKit Go.FV

set_option maxHeartbeats 1000000 in
theorem validRecord_any (r : Rec) (p : Option Addr) (c : Nat) (w : World) (m : Nat) (hs : r.name.size ≤ 1048576) :
    Calls Try.prog 23 #[recVal r p c] (w.drewN m) (BoolB (validR r) w) := by
  have HB : Hid (Below w.heap.size w (w.alloc (.cells #[.string r.name, .int .i64 r.start, .int .i64 r.step, .slice p r.vals.length c] 35))) := (Below.refl _ _).alloc (Nat.le_refl _) _
  unfold recVal
  cases h1 : nameOk r.name
  · have H1 := Lib.hid h1
    go_enter Try.func23, Try.ntmps23
    go_wp2_with (first | (go_at_call 37; refine (isName_any _ _ hs).mono ?_; rintro e w' ⟨rfl, rfl⟩))
    go_ret
    exact ⟨_, _, by unfold validR; rw [H1.out]; rfl, rfl, HB.out⟩
  · have H1 := Lib.hid h1
    cases h2 : inB r.start 0 4294967295
    · have H2 := Lib.hid h2
      go_enter Try.func23, Try.ntmps23
      go_wp2_with (first | (go_at_call 37; refine (isName_any _ _ hs).mono ?_; rintro e w' ⟨rfl, rfl⟩) | (go_at_call 38; refine (within_any _ _ _ _).mono ?_; rintro e w' ⟨rfl, rfl⟩))
      go_ret
      exact ⟨_, _, by unfold validR; rw [H1.out, H2.out]; rfl, rfl, HB.out⟩
    · have H2 := Lib.hid h2
      cases h3 : inB r.step 1 65535
      all_goals
        have H3 := Lib.hid h3
        go_enter Try.func23, Try.ntmps23
        go_wp2_with (first | (go_at_call 37; refine (isName_any _ _ hs).mono ?_; rintro e w' ⟨rfl, rfl⟩) | (go_at_call 38; refine (within_any _ _ _ _).mono ?_; rintro e w' ⟨rfl, rfl⟩) | (go_at_call 39; refine (isMany_any _ _ _ _).mono ?_; rintro e w' ⟨rfl, rfl⟩))
        go_ret
        exact ⟨_, _, by unfold validR; rw [H1.out, H2.out, H3.out]; rfl, rfl, HB.out⟩

theorem bad1_any (r : Rec) (p : Option Addr) (c : Nat) (w : World) (m : Nat) (hs : r.name.size ≤ 1048576) :
    Calls Try.prog 22 #[recVal r p c] (w.drewN m) (BoolB (!validR r) w) := by
  have HB : Hid (Below w.heap.size w (w.alloc (.cells #[.string r.name, .int .i64 r.start, .int .i64 r.step, .slice p r.vals.length c] 35))) := (Below.refl _ _).alloc (Nat.le_refl _) _
  unfold recVal
  go_enter Try.func22, Try.ntmps22
  go_wp2_with (go_at_call 23; refine (validRecord_any r p c _ _ hs).mono ?_; rintro e w' ⟨W2, q2, rfl, rfl, hb2⟩; have HB2 := Lib.hid hb2; clear hb2)
  go_ret
  exact ⟨W2, _, rfl, rfl, HB.out.trans (HB2.out.mono HB.out.size)⟩

def IdxB (b : Bool) (w : World) (e : Ending) (w' : World) : Prop := ∃ (i : Int) (W : World) (q : Nat), e = .returned (.int .i64 i) ∧ w' = W.drewN q ∧ Below w.heap.size w W ∧ decide (0 ≤ i) = b

set_option maxHeartbeats 400000 in
theorem indexBad_any (p : Option Addr) (c : Nat) (rs : List Rec) (w : World) (m : Nat) (hin : InR w p rs) (hs : Small rs) :
    Calls Try.prog 36 #[.slice p rs.length c, .func (.func 22) #[] #[]] (w.drewN m) (IdxB (!rs.all validR) w) := by
  have hn : rs.length ≤ 1048576 := hs.1
  have HI := Lib.hid hin
  have HS := Lib.hid hs
  clear hin hs
  go_enter Try.func36, Try.ntmps36
  go_wp2_with (fail)
  go_loopw [8] (fun k wr => ∃ (n q : Nat) (W : World), n ≤ rs.length ∧ k = .int .i64 n ∧ wr = W.drewN q ∧ Hid (Below w.heap.size w W ∧ (rs.take n).all validR = true)) (fun k _ => rs.length - (intOf k).toNat)
  case atStart => exact ⟨0, _, w, Nat.zero_le _, rfl, rfl, Below.refl _ _, rfl⟩
  case round =>
    obtain ⟨n, q, W, hnl, rfl, rfl, HA⟩ := hrel
    by_cases hlt : n < rs.length
    · obtain ⟨b, off, rfl, hb, hrow⟩ := (HI.out.below HA.out.1) (by intro e; rw [e] at hlt; simp at hlt)
      obtain ⟨c0, c1, c2, pv, cv, c3, hi⟩ := hrow n rs[n] (List.getElem?_eq_getElem hlt)
      have HX := Lib.hid (List.getElem?_eq_getElem hlt)
      have HM := Lib.hid (HS.out.2 rs[n] (List.getElem_mem hlt))
      clear hrow hi
      generalize rs[n] = r at *
      have hlt' : (n : Int) < (rs.length : Int) := by omega
      cases hb1 : validR r
      · have HB1 := Lib.hid hb1
        go_wp2_with (go_at_call 22; refine (bad1_any r pv cv W _ HM.out.1).mono ?_; rintro e w' ⟨W2, q2, rfl, rfl, hb2⟩; have HB2 := Lib.hid hb2; clear hb2)
        go_ret
        exact ⟨n, W2, _, rfl, rfl, HA.out.1.trans (HB2.out.mono HA.out.1.size), by rw [not_all HX.out HB1.out, decide_eq_true (by omega)]; rfl⟩
      · have HB1 := Lib.hid hb1
        go_wp2_with (go_at_call 22; refine (bad1_any r pv cv W _ HM.out.1).mono ?_; rintro e w' ⟨W2, q2, rfl, rfl, hb2⟩; have HB2 := Lib.hid hb2; clear hb2)
        go_roundw
        case rel => exact ⟨n + 1, _, W2, by omega, by go_num, rfl, HA.out.1.trans (HB2.out.mono HA.out.1.size), all_take_snoc HX.out HA.out.2 HB1.out⟩
        case measure => simp [intOf]; omega
    · obtain rfl : n = rs.length := by omega
      go_wp2_with (fail)
      go_ret
      have ha := HA.out.2
      rw [List.take_length] at ha
      exact ⟨-1, W, _, rfl, rfl, HA.out.1, by rw [ha]; rfl⟩

theorem containsBad_any (p : Option Addr) (c : Nat) (rs : List Rec) (w : World) (m : Nat) (hin : InR w p rs) (hs : Small rs) :
    Calls Try.prog 21 #[.slice p rs.length c, .func (.func 22) #[] #[]] (w.drewN m) (BoolB (!rs.all validR) w) := by
  have HI := Lib.hid hin
  clear hin
  go_enter Try.func21, Try.ntmps21
  go_wp2_with (go_at_call 36; refine (indexBad_any p c rs w _ HI.out hs).mono ?_; rintro e w' ⟨i, W2, q2, rfl, rfl, hb2, hi⟩; have HB2 := Lib.hid hb2; have HV := Lib.hid hi; clear hb2 hi)
  go_ret
  exact ⟨W2, _, by rw [← HV.out]; rfl, rfl, HB2.out⟩
end Go.Proofs.Yteeficdlpoladaa
