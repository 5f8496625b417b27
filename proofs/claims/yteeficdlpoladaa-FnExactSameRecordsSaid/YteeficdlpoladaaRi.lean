/- The law's walk: SameRecords. -/
import Derived.Test.YteeficdlpoladaaRh
namespace Go.Proofs.Yteeficdlpoladaa
open Go.RowKit Go.FV

set_option maxHeartbeats 1000000 in
/-- The law answers true and turns nothing that was there. -/
theorem lawSame_any (p p' : Option Addr) (c c' : Nat) (rs ss : List Rec) (w : World) (m : Nat) (hin : InR w p rs) (hin' : InR w p' ss) (hs : Sane rs) (hs' : Sane ss) :
    Calls Try.prog 3 #[.slice p rs.length c, .slice p' ss.length c'] (w.drewN m) (TrueB w) := by
  have HI := Lib.hid hin
  have HI' := Lib.hid hin'
  have HS := Lib.hid hs
  have HS' := Lib.hid hs'
  clear hin hin' hs hs'
  go_enter Try.func3, Try.ntmps3
  go_wp2_with (fail)
  refine (szRecordS_any p c rs _ w _ HI.out HS.out (by omega) (by omega)).mono ?_
  rintro e w' ⟨i, W1, q1, rfl, rfl, hb, hi1, hi2, hp⟩
  have HB1 := Lib.hid hb
  have HP := Lib.hid hp
  clear hb hp
  by_cases hi : i < 0
  · go_wp2_with (fail)
    go_ret
    exact ⟨W1, _, rfl, rfl, HB1.out⟩
  · have HSm := Lib.hid (HP.out (by omega))
    clear HP
    go_wp2_with (fail)
    refine (szRecordS_any p' c' ss _ W1 _ (HI'.out.below HB1.out) HS'.out (by omega) (by omega)).mono ?_
    rintro e w' ⟨i2, W2, q2, rfl, rfl, hb, hi3, hi4, hp⟩
    have HB2 := Lib.hid (HB1.out.trans (hb.mono HB1.out.size))
    have HP := Lib.hid hp
    clear hb hp
    by_cases hi' : i2 < 0
    · go_wp2_with (fail)
      go_ret
      exact ⟨W2, _, rfl, rfl, HB2.out⟩
    · have HSm' := Lib.hid (HP.out (by omega))
      clear HP
      go_wp2_with (fail)
      refine (toRecordS_any p c rs W2 _ (HI.out.below HB2.out) HSm.out).mono ?_
      rintro e w' ⟨g1, W3, q3, rfl, rfl, hb, hr, -, -⟩
      have HB3 := Lib.hid (HB2.out.trans (hb.mono HB2.out.size))
      have HR1 := Lib.hid hr
      clear hb hr
      go_wp2_with (fail)
      refine (toRecordS_any p' c' ss W3 _ (HI'.out.below HB3.out) HSm'.out).mono ?_
      rintro e w' ⟨g2, W4, q4, rfl, rfl, hb, hr, -, -⟩
      have HB4 := Lib.hid (HB3.out.trans (hb.mono HB3.out.size))
      have HR1' := Lib.hid (HR1.out.below hb)
      have HR2 := Lib.hid hr
      clear hb hr HR1
      go_wp2_with (fail)
      refine (specSame_any _ _ _ _ rs ss W4 _ HR1'.out HR2.out HSm.out).mono ?_
      rintro e w' ⟨q5, rfl, rfl⟩
      clear HR1' HR2
      generalize hsame : sameRs rs ss = same
      have HSame := Lib.hid hsame
      clear hsame
      go_wp2_with (fail)
      refine (toRecordS_any p c rs W4 _ (HI.out.below HB4.out) HSm.out).mono ?_
      rintro e w' ⟨g3, W5, q6, rfl, rfl, hb, hr, -, -⟩
      have HB5 := Lib.hid (HB4.out.trans (hb.mono HB4.out.size))
      have HR3 := Lib.hid hr
      clear hb hr
      go_wp2_with (fail)
      refine (toRecordS_any p' c' ss W5 _ (HI'.out.below HB5.out) HSm'.out).mono ?_
      rintro e w' ⟨g4, W6, q7, rfl, rfl, hb, hr, -, -⟩
      have HB6 := Lib.hid (HB5.out.trans (hb.mono HB5.out.size))
      have HR3' := Lib.hid (HR3.out.below hb)
      have HR4 := Lib.hid hr
      clear hb hr HR3
      go_wp2_with (fail)
      refine (implSame_any _ _ _ _ rs ss W6 _ HR3'.out HR4.out HSm.out).mono ?_
      rintro e w' ⟨W7, q8, rfl, rfl, hb⟩
      rw [HSame.out]
      have HB7 := Lib.hid (HB6.out.trans (hb.mono HB6.out.size))
      have HR5 := Lib.hid (HR3'.out.below hb)
      have HR6 := Lib.hid (HR4.out.below hb)
      clear hb HR3' HR4
      go_wp2_with (fail)
      refine (toRecordS_any p c rs W7 _ (HI.out.below HB7.out) HSm.out).mono ?_
      rintro e w' ⟨g5, W8, q9, rfl, rfl, hb, hr, -, -⟩
      have HB8 := Lib.hid (HB7.out.trans (hb.mono HB7.out.size))
      have HR7 := Lib.hid (HR5.out.below hb)
      have HR8 := Lib.hid (HR6.out.below hb)
      have HR9 := Lib.hid hr
      clear hb hr HR5 HR6
      go_wp2_with (fail)
      refine (eqRecordS_any _ _ _ _ rs W8 _ HR7.out HR9.out HSm.out).mono ?_
      rintro e w' ⟨W9, q10, rfl, rfl, hb⟩
      have HB9 := Lib.hid (HB8.out.trans (hb.mono HB8.out.size))
      have HR10 := Lib.hid (HR8.out.below hb)
      clear hb HR7 HR8 HR9
      go_wp2_with (fail)
      refine (toRecordS_any p' c' ss W9 _ (HI'.out.below HB9.out) HSm'.out).mono ?_
      rintro e w' ⟨g6, W10, q11, rfl, rfl, hb, hr, -, -⟩
      have HB10 := Lib.hid (HB9.out.trans (hb.mono HB9.out.size))
      have HR11 := Lib.hid (HR10.out.below hb)
      have HR12 := Lib.hid hr
      clear hb hr HR10
      go_wp2_with (fail)
      refine (eqRecordS_any _ _ _ _ ss W10 _ HR11.out HR12.out HSm'.out).mono ?_
      rintro e w' ⟨W11, q12, rfl, rfl, hb⟩
      have HB11 := Lib.hid (HB10.out.trans (hb.mono HB10.out.size))
      clear hb
      go_wp2_with (fail)
      go_ret
      exact ⟨W11, _, rfl, rfl, HB11.out⟩
end Go.Proofs.Yteeficdlpoladaa
