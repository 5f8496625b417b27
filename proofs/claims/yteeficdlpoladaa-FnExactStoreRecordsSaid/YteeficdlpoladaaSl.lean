/- The walks: StoreRecords, the reference and the program. -/
import Derived.Test.YteeficdlpoladaaSj
namespace Go.Proofs.Yteeficdlpoladaa
open Go.RowKit Go.FV

def RetS2 (s : ByteArray) (b : Bool) (w : World) (e : Ending) (w' : World) : Prop := ∃ W q, e = .returned (.tuple #[.string s, .bool b]) ∧ w' = W.drewN q ∧ Below w.heap.size w W

theorem okStore_long {rs : List Rec} (h : ¬ rs.length ≤ 8) : okStore rs = false := by unfold okStore; rw [decide_eq_false h]; rfl
theorem okStore_bad {rs : List Rec} (h : rs.all validR = false) : okStore rs = false := by unfold okStore; rw [h, Bool.and_false]
theorem okStore_good {rs : List Rec} (h8 : rs.length ≤ 8) (h : rs.all validR = true) : okStore rs = true := by unfold okStore; rw [h, decide_eq_true h8]; rfl
theorem res_no {rs : List Rec} (h : okStore rs = false) : storeRes rs = ⟨#[]⟩ := by unfold storeRes; rw [h]; rfl
theorem res_yes {rs : List Rec} (h : okStore rs = true) : storeRes rs = storeAll rs := by unfold storeRes; rw [if_pos h]

set_option maxHeartbeats 1000000 in
theorem specStore_any (p : Option Addr) (c : Nat) (rs : List Rec) (w : World) (m : Nat) (hin : InR w p rs) (hs : Small rs) :
    Calls Try.prog 10 #[.slice p rs.length c] (w.drewN m) (RetS2 (storeRes rs) (okStore rs) w) := by
  have hn : rs.length ≤ 1048576 := hs.1
  have HI := Lib.hid hin
  have HS := Lib.hid hs
  clear hin hs
  by_cases h8 : rs.length ≤ 8
  · have h8' : (rs.length : Int) ≤ 8 := by omega
    have b8 : decide ((8 : Int) < (rs.length : Int)) = false := decide_eq_false (by omega)
    go_enter Try.func10, Try.ntmps10
    go_wp2_with (fail)
    go_loopw [4, 11] (fun v k wr => ∃ (n q : Nat) (W : World), n ≤ rs.length ∧ k = .int .i64 n ∧ wr = W.drewN q ∧ v = .string (storeAll (rs.take n)) ∧ Hid (Below w.heap.size w W ∧ (rs.take n).all validR = true)) (fun _ k _ => rs.length - (intOf k).toNat)
    case atStart => exact ⟨0, _, w, Nat.zero_le _, rfl, rfl, rfl, Below.refl _ _, rfl⟩
    case round =>
      obtain ⟨n, q, W, hnl, rfl, rfl, rfl, HA⟩ := hrel
      by_cases hlt : n < rs.length
      · obtain ⟨b, off, rfl, hb, hrow⟩ := (HI.out.below HA.out.1) (by intro e; rw [e] at hlt; simp at hlt)
        have HX := Lib.hid (List.getElem?_eq_getElem hlt)
        have HR := Lib.hid (hrow n rs[n] (List.getElem?_eq_getElem hlt))
        have HM := Lib.hid (HS.out.2 rs[n] (List.getElem_mem hlt))
        have HSS := Lib.hid (storeAll_snoc HX.out)
        have HLN := Lib.hid (storeAll_len hnl HA.out.2)
        clear hrow
        generalize rs[n] = r at *
        have hlt' : (n : Int) < (rs.length : Int) := by omega
        cases hb1 : validR r
        · have HB1 := Lib.hid hb1
          go_wp2_with (fail)
          refine (l07Record_any r b (off + n * 4) W _ HR.out HM.out.1).mono ?_
          rintro e w' ⟨q2, rfl, rfl⟩
          rw [HB1.out]
          go_wp2_with (fail)
          go_ret2
          have hno := okStore_bad (not_all HX.out HB1.out)
          exact ⟨W, _, by rw [hno, res_no hno]; rfl, rfl, HA.out.1⟩
        · have HB1 := Lib.hid hb1
          go_wp2_with (fail)
          refine (l07Record_any r b (off + n * 4) W _ HR.out HM.out.1).mono ?_
          rintro e w' ⟨q2, rfl, rfl⟩
          rw [HB1.out]
          go_wp2_with (fail)
          refine (l07Store_any r b (off + n * 4) W _ hb HR.out HB1.out).mono ?_
          rintro e w' ⟨W2, q3, rfl, rfl, hb2⟩
          have HB2 := Lib.hid hb2
          clear hb2
          have hle : (storeAll (List.take n rs)).size + (strOf (storeB r)).size ≤ 9223372036854775807 := by
            have h1 := HLN.out
            have h2 := storeB_len HB1.out
            rw [strOf_size]; omega
          go_wp2_with (fail)
          go_roundw
          case rel => exact ⟨n + 1, _, W2, by omega, by go_num, rfl, by rw [HSS.out], HA.out.1.trans (HB2.out.mono HA.out.1.size), all_take_snoc HX.out HA.out.2 HB1.out⟩
          case measure => simp [intOf]; omega
      · obtain rfl : n = rs.length := by omega
        go_wp2_with (fail)
        go_ret2
        have ha := HA.out.2
        rw [List.take_length] at ha
        have hyes := okStore_good h8 ha
        exact ⟨W, _, by rw [hyes, res_yes hyes]; rw [List.take_length]; rfl, rfl, HA.out.1⟩
  · have b8 : decide ((8 : Int) < (rs.length : Int)) = true := decide_eq_true (by omega)
    go_enter Try.func10, Try.ntmps10
    go_wp2_with (fail)
    go_ret2
    have hno := okStore_long h8
    exact ⟨w, _, by rw [hno, res_no hno]; rfl, rfl, Below.refl _ _⟩

set_option maxHeartbeats 1000000 in
theorem implStore_any (p : Option Addr) (c : Nat) (rs : List Rec) (w : World) (m : Nat) (hin : InR w p rs) (hs : Small rs) :
    Calls Try.prog 11 #[.slice p rs.length c] (w.drewN m) (RetS2 (storeRes rs) (okStore rs) w) := by
  have hn : rs.length ≤ 1048576 := hs.1
  have HI := Lib.hid hin
  have HS := Lib.hid hs
  clear hin hs
  by_cases h8 : rs.length ≤ 8
  · have h8' : (rs.length : Int) ≤ 8 := by omega
    have b8 : decide ((8 : Int) < (rs.length : Int)) = false := decide_eq_false (by omega)
    cases hall : rs.all validR
    · have HALL := Lib.hid hall
      go_enter Try.func11, Try.ntmps11
      go_wp2_with (fail)
      refine (containsBad_any p c rs w _ HI.out HS.out).mono ?_
      rintro e w' ⟨W1, q1, rfl, rfl, hb1⟩
      rw [HALL.out]
      have HB1 := Lib.hid hb1
      clear hb1
      go_wp2_with (fail)
      go_ret2
      have hno := okStore_bad HALL.out
      exact ⟨W1, _, by rw [hno, res_no hno]; rfl, rfl, HB1.out⟩
    · have HALL := Lib.hid hall
      go_enter Try.func11, Try.ntmps11
      go_wp2_with (fail)
      refine (containsBad_any p c rs w _ HI.out HS.out).mono ?_
      rintro e w' ⟨W1, q1, rfl, rfl, hb1⟩
      rw [HALL.out]
      have HB1 := Lib.hid hb1
      clear hb1
      go_wp2_with (fail)
      go_loopw [4, 16] (fun v k wr => ∃ (n q : Nat) (W : World), n ≤ rs.length ∧ k = .int .i64 n ∧ wr = W.drewN q ∧ v = .string (storeAll (rs.take n)) ∧ Hid (Below w.heap.size w W)) (fun _ k _ => rs.length - (intOf k).toNat)
      case atStart => exact ⟨0, _, W1, Nat.zero_le _, rfl, rfl, rfl, HB1.out⟩
      case round =>
        obtain ⟨n, q, W, hnl, rfl, rfl, rfl, HA⟩ := hrel
        by_cases hlt : n < rs.length
        · obtain ⟨b, off, rfl, hb, hrow⟩ := (HI.out.below HA.out) (by intro e; rw [e] at hlt; simp at hlt)
          obtain ⟨c0, c1, c2, pv, cv, c3, hi⟩ := hrow n rs[n] (List.getElem?_eq_getElem hlt)
          have HX := Lib.hid (List.getElem?_eq_getElem hlt)
          have HB1 := Lib.hid (List.all_eq_true.1 HALL.out rs[n] (List.getElem_mem hlt))
          have HTK := Lib.hid (show (rs.take n).all validR = true from List.all_eq_true.2 fun x hx => List.all_eq_true.1 HALL.out x (List.mem_of_mem_take hx))
          have HSS := Lib.hid (storeAll_snoc HX.out)
          have HLN := Lib.hid (storeAll_len hnl HTK.out)
          have HV := Lib.hid hi
          clear hrow hi
          generalize rs[n] = r at *
          have hlt' : (n : Int) < (rs.length : Int) := by omega
          have hba : Hid (Below W.heap.size W (W.alloc (.cells #[.string r.name, .int .i64 r.start, .int .i64 r.step, .slice pv r.vals.length cv] 35))) := (Below.refl _ _).alloc (Nat.le_refl _) _
          go_wp2_with (fail)
          refine (storeRecord_any r pv cv (W.alloc (.cells #[.string r.name, .int .i64 r.start, .int .i64 r.step, .slice pv r.vals.length cv] 35)) _ (HV.out.below hba.out) HB1.out).mono ?_
          rintro e w' ⟨W2, q3, rfl, rfl, hb2⟩
          have HB2 := Lib.hid (hba.out.trans (hb2.mono hba.out.size))
          clear hb2
          have hle : (storeAll (List.take n rs)).size + (strOf (storeB r)).size ≤ 9223372036854775807 := by
            have h1 := HLN.out
            have h2 := storeB_len HB1.out
            rw [strOf_size]; omega
          go_wp2_with (fail)
          go_roundw
          case rel => exact ⟨n + 1, _, W2, by omega, by go_num, rfl, by rw [HSS.out], HA.out.trans (HB2.out.mono HA.out.size)⟩
          case measure => simp [intOf]; omega
        · obtain rfl : n = rs.length := by omega
          go_wp2_with (fail)
          go_ret2
          have hyes := okStore_good h8 HALL.out
          exact ⟨W, _, by rw [hyes, res_yes hyes]; rw [List.take_length]; rfl, rfl, HA.out⟩
  · have b8 : decide ((8 : Int) < (rs.length : Int)) = true := decide_eq_true (by omega)
    go_enter Try.func11, Try.ntmps11
    go_wp2_with (fail)
    go_ret2
    have hno := okStore_long h8
    exact ⟨w, _, by rw [hno, res_no hno]; rfl, rfl, Below.refl _ _⟩
end Go.Proofs.Yteeficdlpoladaa
