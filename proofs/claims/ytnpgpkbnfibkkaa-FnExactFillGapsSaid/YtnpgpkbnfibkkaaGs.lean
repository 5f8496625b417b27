/- The walks: FillGaps, the implementation. -/
import Derived.Test.YtnpgpkbnfibkkaaGr
namespace Go.Proofs.Ytnpgpkbnfibkkaa
open Go.RowKit Go.FV

theorem take_fill {xs : List (FV .f32)} {ks : List Bool} {n : Nat} {v : FV .f32} (hn : n < xs.length) (hv : fillV xs ks n = v) : (fillL xs ks).take (n + 1) = (fillL xs ks).take n ++ [v] := by
  rw [take_snoc (fillL_get hn), hv]

section
attribute [local irreducible] Oper.wp
set_option maxRecDepth 20000 in
set_option maxHeartbeats 4000000 in
theorem implFill_any (p : Option Addr) (c : Nat) (xs : List (FV .f32)) (p2 : Option Addr) (c2 : Nat) (ks : List Bool) (w : World) (m : Nat) (hin : In32 w p xs) (hinB : InB w p2 ks) (hl : xs.length ≤ 1048576) :
    Calls Try.prog 35 #[.slice p xs.length c, .slice p2 ks.length c2] (w.drewN m) (RetFill (fillOk xs ks) (fillL xs ks) w) := by
  have HI := Lib.hid hin
  have HB := Lib.hid hinB
  clear hin hinB
  cases h1 : gaugeB xs
  · have e : fillOk xs ks = false := by rw [fillOk, fillGate, h1]; rfl
    rw [e]
    go_enter Try.func35, Try.ntmps35
    go_wp2_with (go_at_call 75; refine (isGauge_any _ _ _ _ _ HI.out hl).mono ?_; rintro e w' ⟨n, rfl, rfl⟩)
    go_ret2
    exact ⟨_, _, _, _, rfl, rfl, Below.refl _ _, fun h => by cases h⟩
  · by_cases h2 : ks.length = xs.length
    · have b2 : ((ks.length : Int) == (xs.length : Int)) = true := by rw [beq_iff_eq]; omega
      have hpos : 0 < xs.length := by
        unfold gaugeB at h1
        rw [Bool.and_eq_true, Bool.and_eq_true] at h1
        exact of_decide_eq_true h1.1.1
      obtain ⟨b, off, rfl, hb, hrow⟩ := HI.out (by intro e; rw [e] at hpos; simp at hpos)
      obtain ⟨bk, offk, rfl, hbk, hrowk⟩ := HB.out (by intro e; rw [e] at h2; simp at h2; omega)
      have HR := Lib.hid hrow
      have HRk := Lib.hid hrowk
      have hL := Lib.hid h2
      have HG := Lib.hid h1
      have HC : Hid (∀ m, Calls Try.prog 82 #[.slice (some ⟨bk, offk, none⟩) xs.length c2, .bool true] (w.drewN m) (RetB (ks.any id) w)) := fun m => by rw [← h2]; exact containsTrue_any _ _ _ _ _ HB.out (by rw [h2]; exact hl)
      clear hrow hrowk
      cases h3 : ks.any id
      · have e : fillOk xs ks = false := by rw [fillOk, h3, Bool.and_false, Bool.false_and]
        rw [e]
        rw [h3] at HC
        go_enter Try.func35, Try.ntmps35
        go_wp2_with (first | (go_at_call 75; refine (isGauge_any _ _ _ _ _ HI.out hl).mono ?_; rintro e w' ⟨n, rfl, rfl⟩) | (go_at_call 82; refine (HC.out _).mono ?_; rintro e w' ⟨n, rfl, rfl⟩))
        go_ret2
        exact ⟨_, _, _, _, rfl, rfl, Below.refl _ _, fun h => by cases h⟩
      · have HA := Lib.hid h3
        rw [h3] at HC
        have e : fillOk xs ks = (fillL xs ks).all fun x => FV.isFin x := by rw [fillOk, h3, fillGate, h1, decide_eq_true h2]; rfl
        have E2 := Lib.hid e
        clear h3 e
        go_enter Try.func35, Try.ntmps35
        go_wp2_with (first | (go_at_call 75; refine (isGauge_any _ _ _ _ _ HI.out hl).mono ?_; rintro e w' ⟨n, rfl, rfl⟩) | (go_at_call 82; refine (HC.out _).mono ?_; rintro e w' ⟨n, rfl, rfl⟩))
        clear HC
        go_loopw [6, 31] (fun v k wr => ∃ (n : Nat) (q : Nat) (W : World), n ≤ xs.length ∧ k = .int .i64 n ∧ wr = W.drewN q ∧ Hid (OwnsLogs w W ((fillL xs ks).take n) v)) (fun _ k _ => xs.length - (intOf k).toNat)
        case atStart => exact ⟨0, _, _, Nat.zero_le _, rfl, rfl, OwnsLogs.nil w⟩
        case round =>
          obtain ⟨n, q, W, hn, rfl, rfl, HW⟩ := hrel
          by_cases hlt : n < xs.length
          · have hle : ((fillL xs ks).take n).length ≤ 1048576 := by rw [List.length_take, fillL_length]; omega
            have HLE := Lib.hid hle
            obtain ⟨j, hcell⟩ := (HR.out.below HW.out.1 hb) n xs[n] (List.getElem?_eq_getElem hlt)
            have hg := Lib.hid (List.getElem?_eq_getElem hlt)
            have HBW : Hid (∀ k (hk : k < xs.length), W.cell? ⟨bk, offk + k, none⟩ = some (.bool (kn ks k))) := fun k hk => by
              have hk' : ks[k]? = some (ks[k]'(by omega)) := List.getElem?_eq_getElem (by omega)
              rw [HW.out.1.cell (p := ⟨bk, offk + k, none⟩) hbk, kn_get hk']
              exact HRk.out k _ hk'
            have h1' : (n : Int) < (xs.length : Int) := by omega
            clear hle
            generalize xs[n] = x at *
            go_wp2_with (fail)
            go_loopw [9] (fun v wr => ∃ (t q : Nat), t ≤ n + 1 ∧ v = .int .i64 ((t : Int) - 1) ∧ wr = W.drewN q ∧ Hid (∀ j, t ≤ j → j ≤ n → kn ks j = false)) (fun v _ => (intOf v + 1).toNat)
            case atStart => exact ⟨n + 1, q, Nat.le_refl _, by go_num, rfl, fun j h3 h4 => by omega⟩
            case round =>
              obtain ⟨t, q1, ht, rfl, rfl, HT⟩ := hrel
              by_cases ht0 : t = 0
              · subst ht0
                go_wp2_with (fail)
                go_loopw [10] (fun v wr => ∃ (s q : Nat), n ≤ s ∧ s ≤ xs.length ∧ v = .int .i64 s ∧ wr = W.drewN q ∧ Hid (∀ j, n ≤ j → j < s → kn ks j = false)) (fun v _ => xs.length - (intOf v).toNat)
                case atStart => exact ⟨n, q1, Nat.le_refl _, by omega, rfl, by first | rfl | exact World.drewN_drewN .., fun j h3 h4 => by omega⟩
                case round =>
                  obtain ⟨s, q2, hns, hs, rfl, rfl, HS⟩ := hrel
                  by_cases hsl : s < xs.length
                  · have hsl' : (s : Int) < (xs.length : Int) := by omega
                    have hcs := HBW.out s hsl
                    cases hks : kn ks s
                    · rw [hks] at hcs
                      have HKS := Lib.hid hks
                      clear hks
                      go_wp2_with (fail)
                      go_roundw
                      case rel =>
                        refine ⟨s + 1, _, by omega, by omega, by go_num, rfl, fun j h3 h4 => ?_⟩
                        by_cases e : j = s
                        · rw [e]; exact HKS.out
                        · exact HS.out j h3 (by omega)
                      case measure => simp [intOf]; omega
                    · rw [hks] at hcs
                      have HKS := Lib.hid hks
                      clear hks
                      have hne : n < s := by
                        apply Classical.byContradiction; intro hn2
                        have e : s = n := by omega
                        rw [e] at HKS
                        exact absurd ((HT.out n (by omega) (by omega)).symm.trans HKS.out) (by simp)
                      have HV : Hid (kn ks n = false) := HT.out n (by omega) (by omega)
                      have hcn := HBW.out n hlt
                      rw [HV.out] at hcn
                      obtain ⟨j2, hcell2⟩ := (HR.out.below HW.out.1 hb) s xs[s] (List.getElem?_eq_getElem hsl)
                      have hg2 := Lib.hid (List.getElem?_eq_getElem hsl)
                      generalize xs[s] = y at *
                      go_wp2_with (refine wpl_append1 HLE.out HW.out rfl rfl rfl ?_; intro v' W2 ho2; have HO2 := Lib.hid ho2; clear ho2)
                      go_roundw
                      case rel => exact ⟨n + 1, 0, W2, by omega, by go_num, rfl, by rw [take_fill hlt (fillV_first HV.out (lastK_none fun j h3 => HT.out j (by omega) (by omega)) (nextK_some HKS.out (by rw [h2]; exact hsl) (by omega) HS.out) hg2.out)]; exact HO2⟩
                      case measure => simp [intOf]; omega
                  · obtain rfl : s = xs.length := by omega
                    exfalso
                    have hno : lastK ks ks.length = none := lastK_none fun j h3 => by
                      by_cases e : j ≤ n
                      · exact HT.out j (by omega) e
                      · exact HS.out j (by omega) (by omega)
                    have := HA.out
                    rw [any_last, hno] at this
                    cases this

              · obtain ⟨t', rfl⟩ : ∃ t', t = t' + 1 := ⟨t - 1, by omega⟩
                have et : ((t' + 1 : Nat) : Int) - 1 = (t' : Int) := by omega
                rw [et]
                clear et
                have hct := HBW.out t' (by omega)
                have htl : (t' : Int) < (xs.length : Int) := by omega
                cases hkt : kn ks t'
                · rw [hkt] at hct
                  have HKT := Lib.hid hkt
                  clear hkt
                  go_wp2_with (fail)
                  go_roundw
                  case rel =>
                    refine ⟨t', _, by omega, by go_num, rfl, fun j h3 h4 => ?_⟩
                    by_cases e : j = t'
                    · rw [e]; exact HKT.out
                    · exact HT.out j (by omega) h4
                  case measure => simp [intOf]
                · rw [hkt] at hct
                  have HKT := Lib.hid hkt
                  clear hkt
                  go_wp2_with (fail)
                  go_loopw [10] (fun v wr => ∃ (s q : Nat), n ≤ s ∧ s ≤ xs.length ∧ v = .int .i64 s ∧ wr = W.drewN q ∧ Hid (∀ j, n ≤ j → j < s → kn ks j = false)) (fun v _ => xs.length - (intOf v).toNat)
                  case atStart => exact ⟨n, q1, Nat.le_refl _, by omega, rfl, by first | rfl | exact World.drewN_drewN .., fun j h3 h4 => by omega⟩
                  case round =>
                    obtain ⟨s, q2, hns, hs, rfl, rfl, HS⟩ := hrel
                    by_cases hsl : s < xs.length
                    · have hsl' : (s : Int) < (xs.length : Int) := by omega
                      have hcs := HBW.out s hsl
                      cases hks : kn ks s
                      · rw [hks] at hcs
                        have HKS := Lib.hid hks
                        clear hks
                        go_wp2_with (fail)
                        go_roundw
                        case rel =>
                          refine ⟨s + 1, _, by omega, by omega, by go_num, rfl, fun j h3 h4 => ?_⟩
                          by_cases e : j = s
                          · rw [e]; exact HKS.out
                          · exact HS.out j h3 (by omega)
                        case measure => simp [intOf]; omega
                      · rw [hks] at hcs
                        have HKS := Lib.hid hks
                        clear hks
                        by_cases han : t' = n
                        · have hsn : s = n := by
                            apply Classical.byContradiction; intro hn2
                            have := HS.out n (by omega) (by omega)
                            rw [← han] at this
                            exact absurd (HKT.out.symm.trans this) (by simp)
                          have HV : Hid (kn ks n = true) := by rw [← han]; exact HKT
                          have hcn := HBW.out n hlt
                          rw [HV.out] at hcn
                          go_wp2_with (refine wpl_append1 HLE.out HW.out rfl rfl rfl ?_; intro v' W2 ho2; have HO2 := Lib.hid ho2; clear ho2)
                          go_roundw
                          case rel => exact ⟨n + 1, 0, W2, by omega, by go_num, rfl, by rw [take_fill hlt (fillV_known HV.out hg.out)]; exact HO2⟩
                          case measure => simp [intOf]; omega
                        · have HV : Hid (kn ks n = false) := HT.out n (by omega) (by omega)
                          have hcn := HBW.out n hlt
                          rw [HV.out] at hcn
                          have hlt' : t' < xs.length := by omega
                          have hta : (t' : Int) < (xs.length : Int) := by omega
                          have hns2 : n < s := by
                            apply Classical.byContradiction; intro hn2
                            have e : s = n := by omega
                            rw [e] at HKS
                            exact absurd (HV.out.symm.trans HKS.out) (by simp)
                          obtain ⟨j2, hcell2⟩ := (HR.out.below HW.out.1 hb) s xs[s] (List.getElem?_eq_getElem hsl)
                          have hg2 := Lib.hid (List.getElem?_eq_getElem hsl)
                          obtain ⟨j3, hcell3⟩ := (HR.out.below HW.out.1 hb) t' xs[t'] (List.getElem?_eq_getElem hlt')
                          have hg3 := Lib.hid (List.getElem?_eq_getElem hlt')
                          generalize xs[s] = y at *
                          generalize xs[t'] = z at *
                          go_wp2_with (fail)
                          go_quiet (fail)
                          go_wp2_with (first | (refine wpl_append1 HLE.out HW.out rfl rfl rfl ?_; intro v' W2 ho2; have HO2 := Lib.hid ho2; clear ho2) | (refine wp_arith rfl rfl rfl rfl ?_; intro _ _))
                          go_roundw
                          case rel => exact ⟨n + 1, 0, W2, by omega, by go_num, rfl, by rw [take_fill hlt (fillV_gap HV.out (lastK_some HKT.out (by omega) fun j h3 h4 => HT.out j (by omega) (by omega)) (nextK_some HKS.out (by rw [h2]; exact hsl) (by omega) HS.out) hg3.out hg2.out)]; exact HO2⟩
                          case measure => simp [intOf]; omega
                    · obtain rfl : s = xs.length := by omega
                      have HV : Hid (kn ks n = false) := HS.out n (by omega) hlt
                      have hcn := HBW.out n hlt
                      rw [HV.out] at hcn
                      have han : t' < n := by
                        apply Classical.byContradiction; intro hn2
                        have e : t' = n := by omega
                        rw [e] at HKT
                        exact absurd (HV.out.symm.trans HKT.out) (by simp)
                      have hlt' : t' < xs.length := by omega
                      have hta : (t' : Int) < (xs.length : Int) := by omega
                      obtain ⟨j3, hcell3⟩ := (HR.out.below HW.out.1 hb) t' xs[t'] (List.getElem?_eq_getElem hlt')
                      have hg3 := Lib.hid (List.getElem?_eq_getElem hlt')
                      generalize xs[t'] = z at *
                      go_wp2_with (refine wpl_append1 HLE.out HW.out rfl rfl rfl ?_; intro v' W2 ho2; have HO2 := Lib.hid ho2; clear ho2)
                      go_roundw
                      case rel => exact ⟨n + 1, 0, W2, by omega, by go_num, rfl, by rw [take_fill hlt (fillV_end HV.out (lastK_some HKT.out han fun j h3 h4 => HT.out j (by omega) (by omega)) (nextK_none fun j h3 h4 => HS.out j h3 (by omega)) hg3.out)]; exact HO2⟩
                      case measure => simp [intOf]; omega
          · obtain rfl : n = xs.length := by omega
            have HW2 : Hid (OwnsLogs w W (fillL xs ks) u6) := by have := HW.out; rw [← fillL_length xs ks, List.take_length] at this; exact this
            obtain ⟨g, cc, hu6, hown⟩ := HW2.out.own32 (by rw [fillL_length]; exact hpos)
            subst hu6
            have HO := Lib.hid hown
            have hlen := Lib.hid (fillL_length xs ks)
            have hcall := Lib.hid (fun m => areFinite_any (fillL xs ks) g 0 cc W m HO.out.row (by rw [hlen.out]; omega))
            clear HW hown
            cases hfin : (fillL xs ks).all (fun x => FV.isFin x)
            · have E3 : Hid (fillOk xs ks = false) := by show _ = _; rw [E2.out]; exact hfin
              rw [hfin] at hcall
              clear hfin E2
              go_wp2_with (go_at_call 58; refine (hcall.out _).mono ?_; rintro e w' ⟨n, rfl, rfl⟩)
              go_ret2
              exact ⟨_, _, W, _, by rw [E3.out]; rfl, rfl, HW2.out.1, fun h => by rw [E3.out] at h; cases h⟩
            · have E3 : Hid (fillOk xs ks = true) := by show _ = _; rw [E2.out]; exact hfin
              rw [hfin] at hcall
              clear hfin E2
              go_wp2_with (go_at_call 58; refine (hcall.out _).mono ?_; rintro e w' ⟨n, rfl, rfl⟩)
              go_ret2
              exact ⟨_, _, W, _, by rw [E3.out, if_pos rfl]; rfl, rfl, HW2.out.1, fun _ => ⟨g, rfl, HO.out⟩⟩
    · have b2 : ((ks.length : Int) == (xs.length : Int)) = false := by rw [beq_eq_false_iff_ne]; omega
      have e : fillOk xs ks = false := by rw [fillOk, fillGate, decide_eq_false h2, Bool.and_false]; rfl
      rw [e]
      go_enter Try.func35, Try.ntmps35
      go_wp2_with (go_at_call 75; refine (isGauge_any _ _ _ _ _ HI.out hl).mono ?_; rintro e w' ⟨n, rfl, rfl⟩)
      go_ret2
      exact ⟨_, _, _, _, rfl, rfl, Below.refl _ _, fun h => by cases h⟩
end

end Go.Proofs.Ytnpgpkbnfibkkaa
