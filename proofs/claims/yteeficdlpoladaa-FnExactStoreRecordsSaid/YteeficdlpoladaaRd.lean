/- The walks: rows of records compared by the law. -/
import Derived.Test.YteeficdlpoladaaRc
import Derived.StillTailTactics
namespace Go.Proofs.Yteeficdlpoladaa
open Go.RowKit Go.FV

def TrueB (w : World) (e : Ending) (w' : World) : Prop := ∃ W q, e = .returned (.bool true) ∧ w' = W.drewN q ∧ Below w.heap.size w W

set_option maxHeartbeats 400000 in
theorem eqRecord_any (r : Rec) (p p' : Option Addr) (c c' : Nat) (w : World) (m : Nat) (hin : In32 w p r.vals) (hin' : In32 w p' r.vals) (hl : r.vals.length ≤ 1048576) :
    Calls Try.prog 18 #[recVal r p c, recVal r p' c'] (w.drewN m) (TrueB w) := by
  have HI := Lib.hid hin
  have HI' := Lib.hid hin'
  clear hin hin'
  unfold recVal
  go_enter Try.func18, Try.ntmps18
  go_wp2_with (go_at_call 30; refine (eqFloat32S_any p p' c c' r.vals _ _ (HI.out.below ?_) (HI'.out.below ?_) hl).mono ?_; rotate_left 2; rintro e w' ⟨n, rfl, rfl⟩)
  · go_ret
    exact ⟨_, _, rfl, rfl, (((Below.refl _ _).alloc (Nat.le_refl _) _).alloc (by simp) _)⟩
  · exact (((Below.refl _ _).alloc (Nat.le_refl _) _).alloc (by simp) _)
  · exact (((Below.refl _ _).alloc (Nat.le_refl _) _).alloc (by simp) _)

set_option maxHeartbeats 400000 in
theorem eqRecordS_any (p p' : Option Addr) (c c' : Nat) (rs : List Rec) (w : World) (m : Nat) (hin : InR w p rs) (hin' : InR w p' rs) (hs : Small rs) :
    Calls Try.prog 9 #[.slice p rs.length c, .slice p' rs.length c'] (w.drewN m) (TrueB w) := by
  have hn : rs.length ≤ 1048576 := hs.1
  have HI := Lib.hid hin
  have HI' := Lib.hid hin'
  have HS := Lib.hid hs
  clear hin hin' hs
  go_enter Try.func9, Try.ntmps9
  go_wp2_with (fail)
  go_loopw [5] (fun k wr => ∃ (n q : Nat) (W : World), n ≤ rs.length ∧ k = .int .i64 n ∧ wr = W.drewN q ∧ Hid (Below w.heap.size w W)) (fun k _ => rs.length - (intOf k).toNat)
  case atStart => exact ⟨0, _, _, Nat.zero_le _, rfl, rfl, Below.refl _ _⟩
  case round =>
    obtain ⟨n, q, W, hnl, rfl, rfl, HB⟩ := hrel
    by_cases hlt : n < rs.length
    · obtain ⟨b, off, rfl, hb, hrow⟩ := (HI.out.below HB.out) (by intro e; rw [e] at hlt; simp at hlt)
      obtain ⟨b', off', rfl, hb', hrow'⟩ := (HI'.out.below HB.out) (by intro e; rw [e] at hlt; simp at hlt)
      obtain ⟨c0, c1, c2, pv, cv, c3, hi⟩ := hrow n rs[n] (List.getElem?_eq_getElem hlt)
      obtain ⟨d0, d1, d2, pv', cv', d3, hi'⟩ := hrow' n rs[n] (List.getElem?_eq_getElem hlt)
      have HM := Lib.hid (HS.out.2 rs[n] (List.getElem_mem hlt))
      have HV := Lib.hid hi
      have HV' := Lib.hid hi'
      clear hrow hi hrow' hi'
      generalize rs[n] = r at *
      have hlt' : (n : Int) < (rs.length : Int) := by omega
      go_wp2_with (fail)
      refine wp_region_still_tail 8 (by kernel_rfl) (by kernel_rfl) ?_
      simp only [List.take_succ_cons, List.take_zero, List.drop_succ_cons, List.drop_zero]
      change wpStill _ _ (W.drewN (q + 1)) _ _ _
      repeat still_step
      refine wpStill_nil ?_
      change wpList _ _ _ _ _ (W.drewN (q + 1))
      go_wp2_with (go_at_call 18; refine (eqRecord_any r pv pv' cv cv' W _ HV.out HV'.out HM.out.2).mono ?_; rintro e w' ⟨W2, q2, rfl, rfl, hb2⟩; have HB2 := Lib.hid hb2; clear hb2)
      go_roundw
      case rel => exact ⟨n + 1, _, W2, by omega, by go_num, rfl, HB.out.trans (HB2.out.mono HB.out.size)⟩
      case measure => simp [intOf]; omega
    · obtain rfl : n = rs.length := by omega
      go_wp2_with (fail)
      go_ret
      exact ⟨_, _, rfl, rfl, HB.out⟩
end Go.Proofs.Yteeficdlpoladaa
