/- The walks: SameRecords by the program; the law. -/
import Derived.Test.YteeficdlpoladaaRg
namespace Go.Proofs.Yteeficdlpoladaa
open Go.RowKit Go.FV

def BoolB (b : Bool) (w : World) (e : Ending) (w' : World) : Prop := ∃ W q, e = .returned (.bool b) ∧ w' = W.drewN q ∧ Below w.heap.size w W

set_option maxHeartbeats 1000000 in
theorem same1_any (r s : Rec) (p p' : Option Addr) (c c' : Nat) (w : World) (m : Nat) (hin : In32 w p r.vals) (hin' : In32 w p' s.vals) (hl : r.vals.length ≤ 1048576) :
    Calls Try.prog 16 #[recVal r p c, recVal s p' c'] (w.drewN m) (BoolB (sameR r s) w) := by
  have HI := Lib.hid hin
  have HI' := Lib.hid hin'
  clear hin hin'
  have HB : Hid (Below w.heap.size w ((w.alloc (.cells #[.string r.name, .int .i64 r.start, .int .i64 r.step, .slice p r.vals.length c] 35)).alloc (.cells #[.string s.name, .int .i64 s.start, .int .i64 s.step, .slice p' s.vals.length c'] 35))) :=
    (((Below.refl _ _).alloc (Nat.le_refl _) _).alloc (by simp) _)
  unfold recVal
  cases hb1 : (r.name.toList == s.name.toList)
  · have HB1 := Lib.hid hb1
    go_enter Try.func16, Try.ntmps16
    go_wp2_with (fail)
    go_ret
    exact ⟨_, _, by unfold sameR; rw [HB1.out]; rfl, rfl, HB.out⟩
  · have HB1 := Lib.hid hb1
    cases hb2 : (r.start == s.start)
    · have HB2 := Lib.hid hb2
      go_enter Try.func16, Try.ntmps16
      go_wp2_with (fail)
      go_ret
      exact ⟨_, _, by unfold sameR; rw [HB1.out, HB2.out]; rfl, rfl, HB.out⟩
    · have HB2 := Lib.hid hb2
      cases hb3 : (r.step == s.step)
      · have HB3 := Lib.hid hb3
        go_enter Try.func16, Try.ntmps16
        go_wp2_with (fail)
        go_ret
        exact ⟨_, _, by unfold sameR; rw [HB1.out, HB2.out, HB3.out]; rfl, rfl, HB.out⟩
      · have HB3 := Lib.hid hb3
        go_enter Try.func16, Try.ntmps16
        go_wp2_with (go_at_call 17; refine (sameNumbers_any p p' c c' r.vals s.vals _ _ (HI.out.below HB.out) (HI'.out.below HB.out) hl).mono ?_; rintro e w' ⟨n, rfl, rfl⟩)
        go_ret
        exact ⟨_, _, by unfold sameR; rw [HB1.out, HB2.out, HB3.out]; rfl, rfl, HB.out⟩

set_option maxHeartbeats 400000 in
theorem equalR_any (p p' : Option Addr) (c c' : Nat) (rs ss : List Rec) (w : World) (m : Nat) (hin : InR w p rs) (hin' : InR w p' ss) (hs : Small rs) :
    Calls Try.prog 15 #[.slice p rs.length c, .slice p' ss.length c', .func (.func 16) #[] #[]] (w.drewN m) (BoolB (sameRs rs ss) w) := by
  have hn : rs.length ≤ 1048576 := hs.1
  have HI := Lib.hid hin
  have HI' := Lib.hid hin'
  have HS := Lib.hid hs
  clear hin hin' hs
  by_cases hlen : rs.length = ss.length
  · have HL := Lib.hid hlen
    rw [← hlen]
    clear hlen
    go_enter Try.func15, Try.ntmps15
    go_wp2_with (fail)
    go_loopw [17] (fun k wr => ∃ (n q : Nat) (W : World), n ≤ rs.length ∧ k = .int .i64 n ∧ wr = W.drewN q ∧ Hid (Below w.heap.size w W ∧ ((rs.zip ss).take n).all (fun z => sameR z.1 z.2) = true)) (fun k _ => rs.length - (intOf k).toNat)
    case atStart => exact ⟨0, _, w, Nat.zero_le _, rfl, rfl, Below.refl _ _, rfl⟩
    case round =>
      obtain ⟨n, q, W, hnl, rfl, rfl, HA⟩ := hrel
      by_cases hlt : n < rs.length
      · have hlt2 : n < ss.length := by have := HL.out; omega
        obtain ⟨b, off, rfl, hb, hrow⟩ := (HI.out.below HA.out.1) (by intro e; rw [e] at hlt; simp at hlt)
        obtain ⟨b', off', rfl, hb', hrow'⟩ := (HI'.out.below HA.out.1) (by intro e; rw [e] at hlt2; simp at hlt2)
        obtain ⟨c0, c1, c2, pv, cv, c3, hi⟩ := hrow n rs[n] (List.getElem?_eq_getElem hlt)
        obtain ⟨d0, d1, d2, pv', cv', d3, hi'⟩ := hrow' n ss[n] (List.getElem?_eq_getElem hlt2)
        have HX := Lib.hid (List.getElem?_eq_getElem hlt)
        have HY := Lib.hid (List.getElem?_eq_getElem hlt2)
        have HM := Lib.hid (HS.out.2 rs[n] (List.getElem_mem hlt))
        have HV := Lib.hid hi
        have HV' := Lib.hid hi'
        clear hrow hi hrow' hi'
        generalize rs[n] = r at *
        generalize ss[n] = s at *
        have hlt' : (n : Int) < (rs.length : Int) := by omega
        clear hlt2
        have HB0 : Hid (Below W.heap.size W ((W.alloc (.cells #[.string r.name, .int .i64 r.start, .int .i64 r.step, .slice pv r.vals.length cv] 35)).alloc (.cells #[.string s.name, .int .i64 s.start, .int .i64 s.step, .slice pv' s.vals.length cv'] 35))) :=
          (((Below.refl _ _).alloc (Nat.le_refl _) _).alloc (by simp) _)
        cases hb1 : sameR r s
        · have HB1 := Lib.hid hb1
          go_wp2_with (go_at_call 16; refine (same1_any r s pv pv' cv cv' _ _ (HV.out.below HB0.out) (HV'.out.below HB0.out) HM.out.2).mono ?_; rintro e w' ⟨W2, q2, rfl, rfl, hb2⟩; have HB2 := Lib.hid hb2; clear hb2)
          go_ret
          exact ⟨W2, _, by rw [sameRs, sameBy_not HX.out HY.out HB1.out]; rfl, rfl, HA.out.1.trans ((HB0.out.trans (HB2.out.mono HB0.out.size)).mono HA.out.1.size)⟩
        · have HB1 := Lib.hid hb1
          go_wp2_with (go_at_call 16; refine (same1_any r s pv pv' cv cv' _ _ (HV.out.below HB0.out) (HV'.out.below HB0.out) HM.out.2).mono ?_; rintro e w' ⟨W2, q2, rfl, rfl, hb2⟩; have HB2 := Lib.hid hb2; clear hb2)
          go_roundw
          case rel => exact ⟨n + 1, _, W2, by omega, by go_num, rfl, HA.out.1.trans ((HB0.out.trans (HB2.out.mono HB0.out.size)).mono HA.out.1.size), sameBy_more HX.out HY.out HB1.out HA.out.2⟩
          case measure => simp [intOf]; omega
      · obtain rfl : n = rs.length := by omega
        go_wp2_with (fail)
        go_ret
        exact ⟨W, _, by rw [sameRs, sameBy_all HL.out HA.out.2]; rfl, rfl, HA.out.1⟩
  · have HL := Lib.hid hlen
    have hne : ((rs.length : Int) == (ss.length : Int)) = false := by rw [beq_eq_false_iff_ne]; omega
    have hne2 : ((rs.length : Int) != (ss.length : Int)) = true := by rw [bne_iff_ne]; omega
    go_enter Try.func15, Try.ntmps15
    go_wp2_with (fail)
    go_ret
    exact ⟨w, _, by rw [sameRs, sameBy_len HL.out]; rfl, rfl, Below.refl _ _⟩

theorem implSame_any (p p' : Option Addr) (c c' : Nat) (rs ss : List Rec) (w : World) (m : Nat) (hin : InR w p rs) (hin' : InR w p' ss) (hs : Small rs) :
    Calls Try.prog 8 #[.slice p rs.length c, .slice p' ss.length c'] (w.drewN m) (BoolB (sameRs rs ss) w) := by
  have HI := Lib.hid hin
  have HI' := Lib.hid hin'
  clear hin hin'
  go_enter Try.func8, Try.ntmps8
  go_wp2_with (go_at_call 15; refine (equalR_any p p' c c' rs ss w _ HI.out HI'.out hs).mono ?_; rintro e w' ⟨W2, q2, rfl, rfl, hb2⟩; have HB2 := Lib.hid hb2; clear hb2)
  go_ret
  exact ⟨W2, _, rfl, rfl, HB2.out⟩

end Go.Proofs.Yteeficdlpoladaa
