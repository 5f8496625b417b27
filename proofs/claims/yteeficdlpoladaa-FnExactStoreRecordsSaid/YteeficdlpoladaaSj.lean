/- The walks: a record's bytes, by the reference. -/
import Derived.Test.YteeficdlpoladaaSk
namespace Go.Proofs.Yteeficdlpoladaa
open Go.RowKit Go.FV

theorem const_mark (w : World) (C : Array Value) (n c m : Nat) : (convert 54 54 (.slice (some ⟨w.heap.size, 0, none⟩) n c)).run Try.prog ((w.alloc (.cells C 5)).drewN m) = .ok (.slice (some ⟨w.heap.size, 0, none⟩) n c) ((w.alloc (.cells C 5 (C.size, C.size + 1))).drewN m) :=
  Lib.run_convert_bytes_const (P := Try.prog) (w.drewN m) 54 5 C n c Try.underlying54 Try.underlying5

theorem marked_read (W : World) (l : List UInt8) (cs : Array Value) (fr : Nat × Nat) (h : cs = (l.map bv).toArray) : ReadB (W.alloc (.cells cs 5 fr)) (some ⟨W.heap.size, 0, none⟩) l := fun _ =>
  ⟨W.heap.size, 0, rfl, by simp, fun k x hk => by rw [Nat.zero_add, World.cell?_alloc_mark, h, List.getElem?_toArray, List.getElem?_map, hk]; rfl⟩

set_option maxHeartbeats 1600000 in
set_option maxRecDepth 20000 in
theorem l07Store_any (r : Rec) (b o : Nat) (w : World) (m : Nat) (hb : b < w.heap.size) (hr : RecAt w b o r) (hv : validR r = true) :
    Calls Try.prog 20 #[.pointer (some ⟨b, o, none⟩)] (w.drewN m) (NewStr (storeB r) w) := by
  obtain ⟨c0, c1, c2, pv, cv, c3, hi⟩ := hr
  obtain ⟨v1, v2, v3, v4, v5, v6, v7⟩ := valid_parts hv
  have HV := Lib.hid hv
  have HI := Lib.hid hi
  have hpl := packL_len r.vals
  have kc := const_mark
  have hv0 := Lib.hid hv
  clear hv hi
  go_enter Try.func20, Try.ntmps20
  have hnl : r.name.data.toList.length = r.name.size := by simp
  have HNL := Lib.hid hnl.symm
  have HNN : Hid (r.name.data.toList ≠ []) := piecesB_ne hv0.out _ (by unfold piecesB; simp)
  have HL4 := Lib.hid (le4 v2 v3)
  clear hnl
  go_wp2_with (first
    | (at_builtin; refine wpl_first (w := w) (by omega) (by omega) ((Below.refl _ _).alloc (Nat.le_refl _) _) (marked_read w riv _ _ rfl) rfl rfl rfl (by simp) ?_; intro va Wa HGa; have HA := Lib.hid HGa; obtain ⟨hca, -⟩ := bcell HGa.below; clear HGa)
    | (refine wpl_ofStr rfl ?_; intro pb cb Wb hbb hrb; have HBb := Lib.hid hbb; have HRb := Lib.hid hrb; clear hbb hrb)
    | (at_builtin; refine wpl_bytes0 (by rw [← HNL.out]; simp [riv]; omega) HNN.out (HA.out.mono HBb.out) HRb.out rfl rfl HNL.out ?_; intro vc Wc HGc; have HC := Lib.hid HGc; obtain ⟨hcc, -⟩ := bcell HGc.below; clear HGc)
    | (at_builtin; refine wpl_lits (ys := leB 4 r.start) (by rw [leB_length]; simp [riv]; rw [HNL.out]; simp; omega) (by simp [leB]) HC.out rfl HL4.out rfl rfl (by rw [leB_length]) ?_; intro vd Wd HGd; have HD := Lib.hid HGd; obtain ⟨hcd, -⟩ := bcell HGd.below; clear HGd))
  have hlen5 : (riv ++ [byteOf (r.name.size : Int)] ++ r.name.data.toList ++ leB 4 r.start).length ≤ 17 := by
    simp only [List.length_append, leB_length, riv, List.length_cons, List.length_nil, HNL.out]
    simp only [HNL.out.symm]
    omega
  have HLEN := Lib.hid hlen5
  have HD2 : Hid (GrowB w.heap.size w Wd (riv ++ [byteOf (r.name.size : Int)] ++ r.name.data.toList ++ leB 4 r.start) vd) := HD
  have HC2 := Lib.hid c2
  have HC3 := Lib.hid c3
  have HBB := Lib.hid hb
  have hv45 := Lib.hid (And.intro v4 v5)
  have hv7 := Lib.hid v7
  have hHEAD0 : riv ++ [byteOf (r.name.size : Int)] ++ r.name.data.toList ++ leB 4 r.start ++ leB 2 r.step ++ leB 2 ((packL r.vals).length : Int) ++ packL r.vals = headB r := by
    have := pieces_flat r
    unfold piecesB at this
    rw [← this]
    simp
  have hHEAD := Lib.hid hHEAD0
  clear hHEAD0
  clear hlen5 hca hcc hcd HA HBb HRb HC HD HL4 HNN kc c0 c1 c2 c3 hb v1 v2 v3 v4 v5 v6 v7
  generalize riv ++ [byteOf (r.name.size : Int)] ++ r.name.data.toList ++ leB 4 r.start = xs5 at *
  refine wp_region_inv3 (fun i v => match i with
    | 0 => v = vd
    | 1 => v = .pointer (some ⟨b, o, none⟩)
    | 2 => v = .pointer (some ⟨b, o, none⟩)
    | 3 => v = .pointer (some ⟨b, o + 2, none⟩)
    | 4 => v = .int .i64 r.step
    | 5 => v = .int .i64 (r.step % 256)
    | 6 => v = .int .u8 (r.step % 256)
    | 7 => v = .pointer (some ⟨b, o, none⟩)
    | 8 => v = .pointer (some ⟨b, o, none⟩)
    | 9 => v = .pointer (some ⟨b, o + 2, none⟩)
    | 10 => v = .int .i64 r.step
    | 11 => v = .int .i64 (r.step / 256)
    | 12 => v = .int .u8 (r.step / 256)
    | 13 => v = .slice (some ⟨Wd.heap.size, 0, none⟩) 2 2
    | _ => True) (fun listed a w' => StB w.heap.size w Wd (xs5 ++ leB 2 r.step) (r.step % 256) (r.step / 256) (listed.getD 13 false) (listed.getD 14 false) (listed.getD 15 false) (a.tmps.getD 59 undef) (a.tmps.getD 3 undef) w') (by kernel_rfl) (by kernel_rfl) ⟨1, rfl⟩ ?_ ?_
  · intro i op a w1 listed ho hsz hD hnot hall1 hd hsize hoff hlate hclos hdep
    have hbel := hD.below HD2.out
    have t0 : a.tmps.getD 0 undef = .pointer (some ⟨b, o, none⟩) := hoff 0 (by decide)
    have hcell : w1.cell? ⟨b, o + 2, none⟩ = some (.int .i64 r.step) := by rw [hbel.cell (p := ⟨b, o + 2, none⟩) HBB.out]; exact HC2.out
    obtain ⟨v4, v5⟩ := hv45.out
    have hstep : ∀ (i : Nat) (v : Value), i < 13 → _ := fun i v hi => hD.step (v := v) hi
    match i, ho, hdep, hnot with
    | 0, ho, hdep, hnot =>
      cases ho
      have e15 : listed.getD 15 false = false := by
        cases h15 : listed.getD 15 false with
        | false => rfl
        | true => exact (hclos 15 _ rfl h15 ⟨0, .phase⟩ (by simp) rfl).symm.trans hnot
      have t3 : a.tmps.getD 3 undef = vd := hlate 15 (by decide) e15
      exact op_value rfl ⟨_, t3, rfl, hstep 0 _ (by decide)⟩
    | 1, ho, hdep, _ => cases ho; exact op_value rfl ⟨_, t0, rfl, hstep 1 _ (by decide)⟩
    | 2, ho, hdep, _ =>
      cases ho
      have d0 : a.tmps.getD 46 undef = .pointer (some ⟨b, o, none⟩) := hdep ⟨1, .data⟩ (by simp) rfl
      exact op_value (exec_nil d0) ⟨_, rfl, rfl, hstep 2 _ (by decide)⟩
    | 3, ho, hdep, _ =>
      cases ho
      have d0 : a.tmps.getD 47 undef = .pointer (some ⟨b, o, none⟩) := hdep ⟨2, .data⟩ (by simp) rfl
      exact op_value (exec_field35 (by decide) d0) ⟨_, rfl, rfl, hstep 3 _ (by decide)⟩
    | 4, ho, hdep, _ =>
      cases ho
      have d0 : a.tmps.getD 48 undef = .pointer (some ⟨b, o + 2, none⟩) := hdep ⟨3, .data⟩ (by simp) rfl
      exact op_value (exec_load2 d0 hcell) ⟨_, rfl, rfl, hstep 4 _ (by decide)⟩
    | 5, ho, hdep, _ =>
      cases ho
      have d0 : a.tmps.getD 49 undef = .int .i64 r.step := hdep ⟨4, .data⟩ (by simp) rfl
      exact op_value (exec_rem (by omega) d0) ⟨_, rfl, rfl, hstep 5 _ (by decide)⟩
    | 6, ho, hdep, _ =>
      cases ho
      have d0 : a.tmps.getD 50 undef = .int .i64 (r.step % 256) := hdep ⟨5, .data⟩ (by simp) rfl
      exact op_value (exec_byte (by omega) (by omega) d0) ⟨_, rfl, rfl, hstep 6 _ (by decide)⟩
    | 7, ho, hdep, _ => cases ho; exact op_value rfl ⟨_, t0, rfl, hstep 7 _ (by decide)⟩
    | 8, ho, hdep, _ =>
      cases ho
      have d0 : a.tmps.getD 52 undef = .pointer (some ⟨b, o, none⟩) := hdep ⟨7, .data⟩ (by simp) rfl
      exact op_value (exec_nil d0) ⟨_, rfl, rfl, hstep 8 _ (by decide)⟩
    | 9, ho, hdep, _ =>
      cases ho
      have d0 : a.tmps.getD 53 undef = .pointer (some ⟨b, o, none⟩) := hdep ⟨8, .data⟩ (by simp) rfl
      exact op_value (exec_field35 (by decide) d0) ⟨_, rfl, rfl, hstep 9 _ (by decide)⟩
    | 10, ho, hdep, _ =>
      cases ho
      have d0 : a.tmps.getD 54 undef = .pointer (some ⟨b, o + 2, none⟩) := hdep ⟨9, .data⟩ (by simp) rfl
      exact op_value (exec_load2 d0 hcell) ⟨_, rfl, rfl, hstep 10 _ (by decide)⟩
    | 11, ho, hdep, _ =>
      cases ho
      have d0 : a.tmps.getD 55 undef = .int .i64 r.step := hdep ⟨10, .data⟩ (by simp) rfl
      exact op_value (exec_quo (by omega) (by omega) d0) ⟨_, rfl, rfl, hstep 11 _ (by decide)⟩
    | 12, ho, hdep, _ =>
      cases ho
      have d0 : a.tmps.getD 56 undef = .int .i64 (r.step / 256) := hdep ⟨11, .data⟩ (by simp) rfl
      exact op_value (exec_byte (by omega) (by omega) d0) ⟨_, rfl, rfl, hstep 12 _ (by decide)⟩
    | 13, ho, hdep, hnot =>
      cases ho
      have d0 : a.tmps.getD 51 undef = .int .u8 (r.step % 256) := hdep ⟨6, .data⟩ (by simp) rfl
      have d1 : a.tmps.getD 57 undef = .int .u8 (r.step / 256) := hdep ⟨12, .data⟩ (by simp) rfl
      have e14 : listed.getD 14 false = false := by
        cases h14 : listed.getD 14 false with
        | false => rfl
        | true => exact (hclos 14 _ rfl h14 ⟨13, .data⟩ (by simp) rfl).symm.trans hnot
      have e15 : listed.getD 15 false = false := by
        cases h15 : listed.getD 15 false with
        | false => rfl
        | true => exact (hclos 15 _ rfl h15 ⟨13, .phase⟩ (by simp) rfl).symm.trans hnot
      rw [hnot, e14, e15] at hD
      obtain ⟨n1, rfl⟩ := hD
      refine op_value (exec_lit2 d0 d1) ⟨_, rfl, rfl, ?_⟩
      rw [listed_eq (by rw [hsz]; decide), listed_ne (by decide), listed_ne (by decide), e14, e15]
      exact ⟨n1, rfl⟩
    | 14, ho, hdep, hnot =>
      cases ho
      have d0 : a.tmps.getD 45 undef = vd := hdep ⟨0, .data⟩ (by simp) rfl
      have d1 : a.tmps.getD 58 undef = .slice (some ⟨Wd.heap.size, 0, none⟩) 2 2 := hdep ⟨13, .data⟩ (by simp) rfl
      have e13 : listed.getD 13 false = true := hall1 ⟨13, .data⟩ (by simp) rfl
      have e15 : listed.getD 15 false = false := by
        cases h15 : listed.getD 15 false with
        | false => rfl
        | true => exact (hclos 15 _ rfl h15 ⟨14, .data⟩ (by simp) rfl).symm.trans hnot
      rw [hnot, e13, e15] at hD
      obtain ⟨n1, rfl⟩ := hD
      have hlb : (leB 2 r.step).length = 2 := leB_length 2 _
      have hl5 := HLEN.out
      rw [show (2 : Nat) = (leB 2 r.step).length from hlb.symm] at d1
      refine op_bytes (B := w.heap.size) (w := w) (xs := xs5) (ys := leB 2 r.step) (by omega) (by intro e; rw [e] at hlb; cases hlb) (HD2.out.mono ((Below.refl _ _).alloc (Nat.le_refl _) _)) (new_read Wd _ _ (le2 (by omega) (by omega))) d0 (c := (leB 2 r.step).length) ?_ fun v' W2 ho2 => ⟨_, trivial, rfl, ?_⟩
      · exact d1
      · rw [listed_eq (by rw [hsz]; decide), listed_ne (by decide), listed_ne (by decide), e13, e15, put_tmps, if_pos ⟨rfl, by rw [hsize]; simp⟩]
        exact ho2
    | 15, ho, hdep, hnot =>
      cases ho
      have e14 : listed.getD 14 false = true := hall1 ⟨14, .data⟩ (by simp) rfl
      rw [hnot, e14] at hD
      have ho2 : GrowB w.heap.size w w1 (xs5 ++ leB 2 r.step) (a.tmps.getD 59 undef) := hD
      have e3 : (a.put (some 3) (a.tmps.getD 59 undef)).tmps.getD 3 undef = a.tmps.getD 59 undef := by rw [put_tmps, if_pos ⟨rfl, by rw [hsize]; simp⟩]
      rw [← e3] at ho2
      refine op_value rfl ⟨a.tmps.getD 59 undef, trivial, rfl, ?_⟩
      rw [listed_eq (by rw [hsz]; decide)]
      exact ho2
    | i + 16, ho, _, _ => cases ho
  · intro v hv w5 listed hall2 hD
    rw [hall2 15 (by decide)] at hD
    have HO := Lib.hid hD
    clear hD hv hall2
    simp only [putAll, dstAt, List.size_toArray, List.length_cons, List.length_nil, Nat.reduceAdd, List.range_succ, List.range_zero, List.nil_append, List.cons_append, List.foldl_cons, List.foldl_nil, Act.put, List.getElem?_toArray, List.getElem?_cons_succ, List.getElem?_cons_zero, Option.bind_some, Option.getD_some, List.setIfInBounds_toArray, List.set_cons_succ, List.set_cons_zero] at HO ⊢
    generalize v 15 = v15 at HO ⊢
    have HO5 : Hid (GrowB w.heap.size w w5 (xs5 ++ leB 2 r.step) v15) := HO
    clear HO
    obtain ⟨hc5, -⟩ := bcell HO5.out.below
    have hcell3 : w5.cell? ⟨b, o + 3, none⟩ = some (.slice pv r.vals.length cv) := by rw [hc5 b (o + 3) HBB.out]; exact HC3.out
    have HI5 := Lib.hid (HI.out.below HO5.out.below)
    clear hc5
    go_wp2_with (fail)
    refine (l07Pack_any pv cv r.vals w5 0 HI5.out hv7.out).mono ?_
    rintro e w' ⟨W6, q6, rfl, rfl, hb6⟩
    have HB6 := Lib.hid (HO5.out.mono (below_drawn hb6 q6))
    have hsp := strOf_size (packL r.vals)
    have hsd : (strOf (packL r.vals)).data.toList = packL r.vals := by unfold strOf; simp
    have HPL := Lib.hid (Nat.le_trans hpl (Nat.mul_le_mul_left 5 hv7.out))
    have HPN : Hid (packL r.vals ≠ []) := piecesB_ne hv0.out _ (by unfold piecesB; simp)
    clear hb6 hcell3 hpl
    generalize W6.drewN q6 = W7 at *
    generalize strOf (packL r.vals) = sp at *
    have HSP := Lib.hid hsp
    have HSD := Lib.hid hsd
    have hsp1 : sp.size ≤ 640 := by have := HPL.out; omega
    have HL2 := Lib.hid (le2 (n := (sp.size : Int)) (by omega) (by omega))
    clear hsp hsd
    go_wp2_with (first
      | (at_builtin; refine wpl_lits (ys := leB 2 (sp.size : Int)) (by rw [leB_length, List.length_append, leB_length]; have := HLEN.out; omega) (by simp [leB]) HB6.out rfl HL2.out rfl rfl (by rw [leB_length]) ?_; intro ve We HGe; have HE := Lib.hid HGe; clear HGe)
      | (refine wpl_ofStr rfl ?_; intro pf cf Wf hbf hrf; have HBf := Lib.hid hbf; have HRf := Lib.hid hrf; clear hbf hrf)
      | (at_builtin; refine wpl_bytes0 (by rw [HSD.out, List.length_append, List.length_append, leB_length, leB_length]; have := HLEN.out; have := HPL.out; omega) (by rw [HSD.out]; exact HPN.out) (HE.out.mono HBf.out) HRf.out rfl rfl (by rw [HSD.out]; exact HSP.out) ?_; intro vg Wg HGg; have HG := Lib.hid HGg; clear HGg))
    have HG2 := Lib.hid (show GrowB w.heap.size w Wg (headB r) vg by have h := HG.out; rw [HSD.out, HSP.out, hHEAD.out] at h; exact h)
    clear HG HE HBf HRf HB6 HL2 HI5 HO5 HD2
    obtain ⟨a4, c4, rfl, hr4, -⟩ := HG2.out.read
    have hcv0 := conv_back (w := Wg) (c := c4) hr4
    have hbd := checkL_bd (headB r) 0 (by omega) (by omega)
    have hhl := headB_len hv0.out
    rw [hcv0]
    clear hr4 hcv0
    go_wp2_with (fail)
    refine (l01Check_any (strOf (headB r)) 0 Wg (by rw [strOf_size]; omega) (by omega) (by omega)).mono ?_
    rintro e w2 ⟨rfl, hw2⟩
    rw [hw2]
    rw [show (strOf (headB r)).data.toList = headB r from by unfold strOf; simp]
    have hck : Hid (storeB r = headB r ++ leB 2 (checkL 0 (headB r))) := rfl
    have hbd1 : 0 ≤ checkL 0 (headB r) := hbd.1
    have hbd2 : checkL 0 (headB r) ≤ 65535 := by omega
    have HL3 := Lib.hid (le2 hbd1 hbd2)
    clear hbd hw2
    generalize checkL 0 (headB r) = ck at *
    go_wp2_with (at_builtin; refine wpl_lits (ys := leB 2 ck) (by rw [leB_length]; omega) (by simp [leB]) HG2.out rfl HL3.out rfl rfl (by rw [leB_length]) ?_; intro vh Wh HGh; have HH := Lib.hid HGh; clear HGh)
    obtain ⟨a6, c6, rfl, hr6, -⟩ := HH.out.read
    have hcv6 := conv_back (w := Wh) (c := c6) hr6
    rw [hcv6]
    clear hr6 hcv6
    go_wp2_with (fail)
    go_ret
    exact ⟨Wh, 0, by rw [hck.out]; rfl, rfl, HH.out.below⟩
end Go.Proofs.Yteeficdlpoladaa
