/- The law's walk: StoreRecords. -/
import Derived.Test.YteeficdlpoladaaSl
namespace Go.Proofs.Yteeficdlpoladaa
open Go.RowKit Go.FV

set_option maxHeartbeats 1000000 in
/-- The law answers true and turns nothing that was there. -/
theorem lawStore_any (p : Option Addr) (c : Nat) (rs : List Rec) (w : World) (m : Nat) (hin : InR w p rs) (hs : Sane rs) :
    Calls Try.prog 4 #[.slice p rs.length c] (w.drewN m) (TrueB w) := by
  have HI := Lib.hid hin
  have HS := Lib.hid hs
  clear hin hs
  go_enter Try.func4, Try.ntmps4
  go_wp2_with (fail)
  refine (szRecordS_any p c rs _ w _ HI.out HS.out (by omega) (by omega)).mono ?_
  rintro e w' ⟨i, W1, q1, rfl, rfl, hb, hi1, hi2, hp⟩
  have HB1 := Lib.hid hb
  have HP := Lib.hid hp
  clear hb hp
  by_cases hi : i < 0
  · go_wp2_with (fail)
    go_ret
    exact ⟨W1, _, rfl, rfl, HB1.out⟩
  · have HSm := Lib.hid (HP.out (by omega))
    clear HP
    go_wp2_with (fail)
    refine (toRecordS_any p c rs W1 _ (HI.out.below HB1.out) HSm.out).mono ?_
    rintro e w' ⟨g1, W3, q3, rfl, rfl, hb, hr, -, -⟩
    have HB3 := Lib.hid (HB1.out.trans (hb.mono HB1.out.size))
    have HR1 := Lib.hid hr
    clear hb hr
    go_wp2_with (fail)
    refine (specStore_any _ _ rs W3 _ HR1.out HSm.out).mono ?_
    rintro e w' ⟨W4, q4, rfl, rfl, hb⟩
    have HB4 := Lib.hid (HB3.out.trans (hb.mono HB3.out.size))
    clear hb HR1
    generalize hres : storeRes rs = res
    generalize hok : okStore rs = ok
    have HRes := Lib.hid hres
    have HOk := Lib.hid hok
    clear hres hok
    go_wp2_with (fail)
    refine (toRecordS_any p c rs W4 _ (HI.out.below HB4.out) HSm.out).mono ?_
    rintro e w' ⟨g3, W5, q6, rfl, rfl, hb, hr, -, -⟩
    have HB5 := Lib.hid (HB4.out.trans (hb.mono HB4.out.size))
    have HR3 := Lib.hid hr
    clear hb hr
    go_wp2_with (fail)
    refine (implStore_any _ _ rs W5 _ HR3.out HSm.out).mono ?_
    rintro e w' ⟨W7, q8, rfl, rfl, hb⟩
    rw [HRes.out, HOk.out]
    have HB7 := Lib.hid (HB5.out.trans (hb.mono HB5.out.size))
    have HR5 := Lib.hid (HR3.out.below hb)
    clear hb HR3
    go_wp2_with (fail)
    refine (toRecordS_any p c rs W7 _ (HI.out.below HB7.out) HSm.out).mono ?_
    rintro e w' ⟨g5, W8, q9, rfl, rfl, hb, hr, -, -⟩
    have HB8 := Lib.hid (HB7.out.trans (hb.mono HB7.out.size))
    have HR7 := Lib.hid (HR5.out.below hb)
    have HR9 := Lib.hid hr
    clear hb hr HR5
    go_wp2_with (fail)
    refine (eqRecordS_any _ _ _ _ rs W8 _ HR7.out HR9.out HSm.out).mono ?_
    rintro e w' ⟨W9, q10, rfl, rfl, hb⟩
    have HB9 := Lib.hid (HB8.out.trans (hb.mono HB8.out.size))
    clear hb HR7 HR9
    go_wp2_with (fail)
    go_ret
    exact ⟨W9, _, rfl, rfl, HB9.out⟩
end Go.Proofs.Yteeficdlpoladaa
