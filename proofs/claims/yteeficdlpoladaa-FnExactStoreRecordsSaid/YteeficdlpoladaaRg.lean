/- The walks: rows of records held against each other. -/
import Derived.Test.YteeficdlpoladaaRf
namespace Go.Proofs.Yteeficdlpoladaa
open Go.RowKit Go.FV

def sameR (r s : Rec) : Bool := (r.name.toList == s.name.toList) && ((r.start == s.start) && ((r.step == s.step) && sameL r.vals s.vals))
abbrev sameRs (rs ss : List Rec) : Bool := sameBy sameR rs ss

theorem l01SameAll_quiet (p p' : Option Addr) (c c' : Nat) (xs ys : List (FV .f32)) (w : World) (q k : Nat) (hin : In32 w p xs) (hin' : In32 w p' ys) (hl : xs.length ≤ 1048576) :
    Calls Try.prog 13 #[.slice p xs.length c, .slice p' ys.length c'] (w.drewN (q + k)) fun e w'' => e = .returned (.bool (sameL xs ys)) ∧ ∃ n, w'' = w.drewN (q + n) :=
  (l01SameAll_any p p' c c' xs ys (w.drewN (q + k)) 0 hin hin' hl).mono fun e w'' ⟨n, h1, h2⟩ => ⟨h1, k + n, by rw [h2, World.drewN_drewN, Nat.add_assoc]⟩

set_option maxHeartbeats 1000000 in
theorem specSame_any (p p' : Option Addr) (c c' : Nat) (rs ss : List Rec) (w : World) (m : Nat) (hin : InR w p rs) (hin' : InR w p' ss) (hs : Small rs) :
    Calls Try.prog 6 #[.slice p rs.length c, .slice p' ss.length c'] (w.drewN m) (RetB (sameRs rs ss) w) := by
  have hn : rs.length ≤ 1048576 := hs.1
  have HI := Lib.hid hin
  have HI' := Lib.hid hin'
  have HS := Lib.hid hs
  clear hin hin' hs
  by_cases hlen : rs.length = ss.length
  · have HL := Lib.hid hlen
    rw [← hlen]
    clear hlen
    go_enter Try.func6, Try.ntmps6
    go_wp2_with (fail)
    go_loopw [13] (fun k wr => ∃ (n q : Nat), n ≤ rs.length ∧ k = .int .i64 n ∧ wr = w.drewN q ∧ Hid (((rs.zip ss).take n).all (fun z => sameR z.1 z.2) = true)) (fun k _ => rs.length - (intOf k).toNat)
    case atStart => exact ⟨0, _, Nat.zero_le _, rfl, rfl, rfl⟩
    case round =>
      obtain ⟨n, q, hnl, rfl, rfl, HA⟩ := hrel
      by_cases hlt : n < rs.length
      · have hlt2 : n < ss.length := by have := HL.out; omega
        obtain ⟨b, off, rfl, hb, hrow⟩ := HI.out (by intro e; rw [e] at hlt; simp at hlt)
        obtain ⟨b', off', rfl, hb', hrow'⟩ := HI'.out (by intro e; rw [e] at hlt2; simp at hlt2)
        obtain ⟨c0, c1, c2, pv, cv, c3, hi⟩ := hrow n rs[n] (List.getElem?_eq_getElem hlt)
        obtain ⟨d0, d1, d2, pv', cv', d3, hi'⟩ := hrow' n ss[n] (List.getElem?_eq_getElem hlt2)
        have HX := Lib.hid (List.getElem?_eq_getElem hlt)
        have HY := Lib.hid (List.getElem?_eq_getElem hlt2)
        have HM := Lib.hid (HS.out.2 rs[n] (List.getElem_mem hlt))
        have HV := Lib.hid hi
        have HV' := Lib.hid hi'
        clear hrow hi hrow' hi'
        generalize rs[n] = r at *
        generalize ss[n] = s at *
        have hlt' : (n : Int) < (rs.length : Int) := by omega
        clear hlt2
        cases hb1 : (r.name.toList == s.name.toList)
        · have HB1 := Lib.hid hb1
          have hb1' : (r.name.toList != s.name.toList) = true := by rw [bne, hb1]; rfl
          go_wp2_with (fail)
          go_quiet (fail)
          go_wp2_with (fail)
          go_ret
          exact ⟨_, by rw [sameRs, sameBy_not HX.out HY.out (by unfold sameR; rw [HB1.out]; rfl)]; rfl, by first | rfl | exact World.drewN_drewN ..⟩
        · have HB1 := Lib.hid hb1
          have hb1' : (r.name.toList != s.name.toList) = false := by rw [bne, hb1]; rfl
          cases hb2 : (r.start == s.start)
          · have HB2 := Lib.hid hb2
            have hb2' : (r.start != s.start) = true := by rw [bne, hb2]; rfl
            go_wp2_with (fail)
            go_quiet (fail)
            go_wp2_with (fail)
            go_ret
            exact ⟨_, by rw [sameRs, sameBy_not HX.out HY.out (by unfold sameR; rw [HB1.out, HB2.out]; rfl)]; rfl, by first | rfl | exact World.drewN_drewN ..⟩
          · have HB2 := Lib.hid hb2
            have hb2' : (r.start != s.start) = false := by rw [bne, hb2]; rfl
            cases hb3 : (r.step == s.step)
            · have HB3 := Lib.hid hb3
              have hb3' : (r.step != s.step) = true := by rw [bne, hb3]; rfl
              go_wp2_with (fail)
              go_quiet (fail)
              go_wp2_with (fail)
              go_ret
              exact ⟨_, by rw [sameRs, sameBy_not HX.out HY.out (by unfold sameR; rw [HB1.out, HB2.out, HB3.out]; rfl)]; rfl, by first | rfl | exact World.drewN_drewN ..⟩
            · have HB3 := Lib.hid hb3
              have hb3' : (r.step != s.step) = false := by rw [bne, hb3]; rfl
              cases hb4 : sameL r.vals s.vals
              · have HB4 := Lib.hid hb4
                go_wp2_with (fail)
                go_quiet ((go_at_call 13; exact l01SameAll_quiet pv pv' cv cv' r.vals s.vals w _ _ HV.out HV'.out HM.out.2))
                go_wp2_with (fail)
                go_ret
                exact ⟨_, by rw [sameRs, sameBy_not HX.out HY.out (by unfold sameR; rw [HB1.out, HB2.out, HB3.out, HB4.out]; rfl)]; rfl, by first | rfl | exact World.drewN_drewN ..⟩
              · have HB4 := Lib.hid hb4
                go_wp2_with (fail)
                go_quiet ((go_at_call 13; exact l01SameAll_quiet pv pv' cv cv' r.vals s.vals w _ _ HV.out HV'.out HM.out.2))
                go_wp2_with (fail)
                go_roundw
                case rel => exact ⟨n + 1, _, by omega, by go_num, by first | rfl | exact World.drewN_drewN .., sameBy_more HX.out HY.out (by unfold sameR; rw [HB1.out, HB2.out, HB3.out, HB4.out]; rfl) HA.out⟩
                case measure => simp [intOf]; omega
      · obtain rfl : n = rs.length := by omega
        go_wp2_with (fail)
        go_ret
        exact ⟨_, by rw [sameRs, sameBy_all HL.out HA.out]; rfl, rfl⟩
  · have HL := Lib.hid hlen
    have hne : ((rs.length : Int) == (ss.length : Int)) = false := by rw [beq_eq_false_iff_ne]; omega
    have hne2 : ((rs.length : Int) != (ss.length : Int)) = true := by rw [bne_iff_ne]; omega
    go_enter Try.func6, Try.ntmps6
    go_wp2_with (fail)
    go_ret
    exact ⟨_, by rw [sameRs, sameBy_len HL.out]; rfl, rfl⟩
end Go.Proofs.Yteeficdlpoladaa
