/- The walks: FillGaps, the reference's loops. -/
import Derived.Test.YtnpgpkbnfibkkaaGq
namespace Go.Proofs.Ytnpgpkbnfibkkaa
open Go.RowKit Go.FV

def lastV : Option Nat → Value
  | none => .int .i64 (-1)
  | some a => .int .i64 a
def upto : Option Nat → Nat
  | none => 0
  | some a => a + 1

def Filling (w W : World) (g : Nat) (O : List (FV .f32)) : Prop := Below w.heap.size w W ∧ Own32 w.heap.size W g O

theorem Filling.store {w W : World} {g k j : Nat} {O : List (FV .f32)} (h : Filling w W g O) (hk : k < O.length) (y : FV .f32) : Filling w ((W.setCell ⟨g, k, none⟩ (.float .f32 (y.fl j)))) g (O.set k y) :=
  ⟨h.1.setCell h.2.new _, h.2.set hk y⟩

theorem exec_store22 {a : Act} {w : World} {s x ty : Nat} {pos : String} {after : Array Edge} {g : Option (Nat × Bool)} {b off q k : Nat} {v : Value}
    (hs : a.tmps.getD s undef = .pointer (some ⟨b, off, none⟩)) (hx : a.tmps.getD x undef = .float .f32 k) (hc : w.cell? ⟨b, off, none⟩ = some v) (hf : w.frozen? ⟨b, off, none⟩ = false) :
    (execOp a.eval ⟨none, .store 22 (.tmp s) (.tmp x), ty, pos, after, g⟩).run Try.prog (w.drewN q) = .ok .skip ((w.setCell ⟨b, off, none⟩ (.float .f32 k)).drewN q) := by
  have h0 : execOp a.eval ⟨none, .store 22 (.tmp s) (.tmp x), ty, pos, after, g⟩ = (do Instr.storeAt 22 (a.eval (.tmp s)) (a.eval (.tmp x)); pure Next.skip) := rfl
  rw [h0, eval_tmp, eval_tmp, hs, hx]
  simp [go_sem, hc, hf]
/-- The world ahead of a store and behind it. -/
def Sd (W : World) (g u : Nat) (V : FV .f32) (l19 : Bool) (w' : World) : Prop :=
  if l19 = true then ∃ n i, w' = (W.setCell ⟨g, u, none⟩ (.float .f32 (V.fl i))).drewN n else ∃ n, w' = W.drewN n
theorem Sd.drew {W : World} {g u : Nat} {V : FV .f32} {l19 : Bool} {w' : World} (h : Sd W g u V l19 w') (k : Nat) : Sd W g u V l19 (w'.drewN k) := by
  unfold Sd at h ⊢
  split
  · rw [if_pos (by assumption)] at h
    obtain ⟨n, i, rfl⟩ := h
    exact ⟨n + k, i, World.drewN_drewN ..⟩
  · rw [if_neg (by assumption)] at h
    obtain ⟨n, rfl⟩ := h
    exact ⟨n + k, World.drewN_drewN ..⟩
theorem Sd.below {w W : World} {g u : Nat} {V : FV .f32} {l19 : Bool} {w' : World} {O : List (FV .f32)} (h : Sd W g u V l19 w') (hf : Filling w W g O) : Below w.heap.size w w' := by
  unfold Sd at h
  split at h
  · obtain ⟨n, i, rfl⟩ := h
    exact below_drawn (hf.1.setCell hf.2.new _) n
  · obtain ⟨n, rfl⟩ := h
    exact below_drawn hf.1 n
theorem Sd.step {W : World} {g u : Nat} {V : FV .f32} {listed : Array Bool} {w' : World} (h : Sd W g u V (listed.getD 19 false) w') (i : Nat) (k : Nat) (hi : i < 19) : Sd W g u V ((listed.setIfInBounds i true).getD 19 false) (w'.drewN k) := by
  rw [listed_ne (by omega)]; exact h.drew k

section
attribute [local irreducible] Oper.wp
theorem op_skip {P : Program} {o : Oper} {a : Act} {w : World} {K : Act → World → Prop} {Q : Exit → Act → World → Prop} {w' : World} (hr : (execOp a.eval o).run P w = .ok .skip w') (hk : K (a.put o.dst undef) w') : o.wp P a w K Q := by
  unfold Oper.wp; rw [hr]; exact hk

set_option maxHeartbeats 4000000 in
theorem specFill_any (p : Option Addr) (c : Nat) (xs : List (FV .f32)) (p2 : Option Addr) (c2 : Nat) (ks : List Bool) (w : World) (m : Nat) (hin : In32 w p xs) (hinB : InB w p2 ks) (hl : xs.length ≤ 1048576) :
    Calls Try.prog 33 #[.slice p xs.length c, .slice p2 ks.length c2] (w.drewN m) (RetFill (fillOk xs ks) (fillL xs ks) w) := by
  have HI := Lib.hid hin
  have HB := Lib.hid hinB
  clear hin hinB
  cases h1 : gaugeB xs
  · have e : fillOk xs ks = false := by rw [fillOk, fillGate, h1]; rfl
    rw [e]
    go_enter Try.func33, Try.ntmps33
    go_wp2_with (go_at_call 71; refine (l07Gauge_any _ _ _ _ _ HI.out hl).mono ?_; rintro e w' ⟨n, rfl, rfl⟩)
    go_ret2
    exact ⟨_, _, _, _, rfl, rfl, Below.refl _ _, fun h => by cases h⟩
  · by_cases h2 : ks.length = xs.length
    · have b2 : ((ks.length : Int) == (xs.length : Int)) = true := by rw [beq_iff_eq]; omega
      have hpos : 0 < xs.length := by
        unfold gaugeB at h1
        rw [Bool.and_eq_true, Bool.and_eq_true] at h1
        exact of_decide_eq_true h1.1.1
      obtain ⟨b, off, rfl, hb, hrow⟩ := HI.out (by intro e; rw [e] at hpos; simp at hpos)
      obtain ⟨bk, offk, rfl, hbk, hrowk⟩ := HB.out (by intro e; rw [e] at h2; simp at h2; omega)
      have HR := Lib.hid hrow
      have HRk := Lib.hid hrowk
      have hL := Lib.hid h2
      have HG := Lib.hid h1
      clear hrow hrowk
      go_enter Try.func33, Try.ntmps33
      go_wp2_with (first
        | (go_at_call 71; refine (l07Gauge_any _ _ _ _ _ HI.out hl).mono ?_; rintro e w' ⟨n, rfl, rfl⟩)
        | (refine wpl_appendAll hl (OwnsLogs.nil w) (HR.out.below ((Below.refl w.heap.size w).alloc (Nat.le_refl _) _) hb) rfl rfl ?_; intro v' W2 ho2; obtain ⟨g, cc, rfl, hown⟩ := ho2.own32 hpos; have HF : Hid (Filling w W2 g (mix xs ks 0)) := ⟨ho2.1, hown⟩; clear ho2 hown))
      go_loopw [7, 27] (fun l k wr => ∃ (n : Nat) (q : Nat) (W : World), n ≤ xs.length ∧ k = .int .i64 n ∧ l = lastV (lastK ks n) ∧ wr = W.drewN q ∧ Hid (Filling w W g (mix xs ks (upto (lastK ks n))))) (fun _ k _ => xs.length - (intOf k).toNat)
      case atStart => exact ⟨0, 0, W2, Nat.zero_le _, rfl, rfl, rfl, HF⟩
      case round =>
        obtain ⟨n, q, W, hn, rfl, rfl, rfl, HW⟩ := hrel
        clear HF
        by_cases hlt : n < xs.length
        · have hRW := HR.out.below HW.out.1 hb
          obtain ⟨j, hcell⟩ := hRW n xs[n] (List.getElem?_eq_getElem hlt)
          have hkn : ks[n]? = some (ks[n]'(by omega)) := List.getElem?_eq_getElem (by omega)
          have hcellk : W.cell? ⟨bk, offk + n, none⟩ = some (.bool (ks[n]'(by omega))) := by rw [HW.out.1.cell (p := ⟨bk, offk + n, none⟩) hbk]; exact HRk.out n _ hkn
          have hg := Lib.hid (List.getElem?_eq_getElem hlt)
          have hk := Lib.hid (kn_get hkn)
          clear hRW hkn
          have h1' : (n : Int) < (xs.length : Int) := by omega
          generalize (ks[n]'(by omega)) = kb at *
          generalize xs[n] = x at *
          cases kb
          · have hla := Lib.hid (show lastK ks (n + 1) = lastK ks n by rw [lastK, hk.out]; rfl)
            go_wp2_with (fail)
            go_roundw
            case rel => exact ⟨n + 1, _, W, by omega, by go_num, by rw [hla.out], rfl, by rw [hla.out]; exact HW⟩
            case measure => simp [intOf]; omega
          · have hla := Lib.hid (show lastK ks (n + 1) = some n by rw [lastK, hk.out]; rfl)
            have hmix := Lib.hid (mix_same (ks := ks) hlt (by rw [fillV_known hk.out hg.out]; exact hg.out))
            cases hlast : lastK ks n
            · have HL := Lib.hid hlast
              have HW0 : Hid (Filling w W g (mix xs ks 0)) := by have := HW.out; rw [hlast] at this; exact this
              have e1 : lastV none = .int .i64 (-1) := rfl
              rw [e1]
              clear hlast e1 HW
              have hcellw : Hid (Row32 w b off xs) := HR
              go_wp2_with (fail)
              go_loopw [9] (fun k wr => ∃ (u : Nat) (q : Nat) (W : World), u ≤ n ∧ k = .int .i64 u ∧ wr = W.drewN q ∧ Hid (Filling w W g (mix xs ks u))) (fun k _ => n - (intOf k).toNat)
              case atStart => exact ⟨0, q, W, Nat.zero_le _, rfl, rfl, HW0⟩
              case round =>
                clear hcell hcellk HW0
                obtain ⟨u, q', W', hu, rfl, rfl, HF⟩ := hrel
                by_cases hun : u < n
                · have hcell2 : ∃ j, W'.cell? ⟨b, off + n, none⟩ = some (.float .f32 (x.fl j)) := (HR.out.below HF.out.1 hb) n x hg.out
                  obtain ⟨j2, hcell2⟩ := hcell2
                  have hul : u < (mix xs ks u).length := by rw [mix_length (by omega)]; omega
                  obtain ⟨v3, hcell3⟩ : ∃ v, W'.cell? ⟨g, u, none⟩ = some v := let ⟨_, h⟩ := HF.out.2.at hul; ⟨_, h⟩
                  have hfz : W'.frozen? ⟨g, u, none⟩ = false := HF.out.2.free u
                  have hkn := lastK_none' HL.out
                  have hv : fillV xs ks u = x := fillV_first (hkn u hun) (lastK_none fun j hj => hkn j (by omega)) (nextK_some hk.out (by rw [h2]; exact hlt) (by omega) fun j h3 h4 => hkn j h4) hg.out
                  have HV := Lib.hid hv
                  have h3' : (u : Int) < (xs.length : Int) := by omega
                  clear hkn hul hv
                  go_wp2_with (fail)
                  go_roundw
                  case rel =>
                    refine ⟨u + 1, _, _, by omega, by go_num, rfl, ?_⟩
                    have := HF.out.store (k := u) (j := j2) (by rw [mix_length (by omega)]; omega) x
                    rw [← HV.out, mix_set (by omega), HV.out] at this
                    exact this
                  case measure => simp [intOf]; omega
                · obtain rfl : u = n := by omega
                  go_wp2_with (fail)
                  go_roundw
                  case rel => exact ⟨u + 1, _, W', by omega, by go_num, by rw [hla.out]; rfl, rfl, by rw [hla.out]; show Hid (Filling w W' g (mix xs ks (u + 1))); rw [← hmix.out]; exact HF⟩
                  case measure => simp [intOf]; omega
            · rename_i aa
              have HL := Lib.hid hlast
              have hla2 := lastK_some' hlast
              have HW0 : Hid (Filling w W g (mix xs ks (aa + 1))) := by have := HW.out; rw [hlast] at this; exact this
              have e1 : lastV (some aa) = .int .i64 aa := rfl
              rw [e1]
              have han := hla2.1
              have HA := Lib.hid hla2
              have hlta : aa < xs.length := by omega
              have hga := Lib.hid (List.getElem?_eq_getElem hlta)
              generalize xs[aa] = y at *
              clear hlast e1 HW hla2
              go_wp2_with (fail)
              go_loopw [9] (fun k wr => ∃ (u : Nat) (q : Nat) (W : World), aa + 1 ≤ u ∧ u ≤ n ∧ k = .int .i64 u ∧ wr = W.drewN q ∧ Hid (Filling w W g (mix xs ks u))) (fun k _ => n - (intOf k).toNat)
              case atStart => exact ⟨aa + 1, q, W, Nat.le_refl _, by omega, by go_num, rfl, HW0⟩
              case round =>
                clear hcell hcellk HW0
                obtain ⟨u, q', W', hau, hu, rfl, rfl, HF⟩ := hrel
                by_cases hun : u < n
                · have hul : u < (mix xs ks u).length := by rw [mix_length (by omega)]; omega
                  obtain ⟨v3, hcell3⟩ : ∃ v, W'.cell? ⟨g, u, none⟩ = some v := let ⟨_, h⟩ := HF.out.2.at hul; ⟨_, h⟩
                  have HC3 := Lib.hid hcell3
                  have hv : fillV xs ks u = _ := fillV_gap (HA.out.2.2 u (by omega) hun) (lastK_some HA.out.2.1 (by omega) fun j h3 h4 => HA.out.2.2 j h3 (by omega)) (nextK_some hk.out (by rw [h2]; exact hlt) (by omega) fun j h3 h4 => HA.out.2.2 j (by omega) h4) hga.out hg.out
                  have HV := Lib.hid hv
                  have h3' : (u : Int) < (xs.length : Int) := by omega
                  clear hul hv hcell3
                  go_wp2_with (refine wp_arith rfl rfl rfl rfl ?_; intro jq nq)
                  have hcaw : ∃ j, w.cell? ⟨b, off + aa, none⟩ = some (.float .f32 (y.fl j)) := HR.out aa y hga.out
                  have hcnw : ∃ j, w.cell? ⟨b, off + n, none⟩ = some (.float .f32 (x.fl j)) := HR.out n x hg.out
                  obtain ⟨ja, hca⟩ := hcaw
                  obtain ⟨jn, hcn⟩ := hcnw
                  generalize bin .quo (of .f32 (floatOfInt .f32 ((u : Int) - aa))) (of .f32 (floatOfInt .f32 ((n : Int) - aa))) = QV at HV ⊢
                  refine wp_region_inv4 (fun i v => match i with
                    | 0 => v = .slice (some ⟨g, 0, none⟩) xs.length cc
                    | 1 => v = .int .i64 u
                    | 2 => v = .slice (some ⟨b, off, none⟩) xs.length c
                    | 3 => v = .int .i64 aa
                    | 4 => v = .pointer (some ⟨b, off + aa, none⟩)
                    | 5 => v = .float .f32 (y.fl ja)
                    | 6 => v = .float .f32 (QV.fl jq)
                    | 7 => v = .slice (some ⟨b, off, none⟩) xs.length c
                    | 8 => v = .int .i64 n
                    | 9 => v = .pointer (some ⟨b, off + n, none⟩)
                    | 10 => v = .float .f32 (x.fl jn)
                    | 11 => v = .slice (some ⟨b, off, none⟩) xs.length c
                    | 12 => v = .int .i64 aa
                    | 13 => v = .pointer (some ⟨b, off + aa, none⟩)
                    | 14 => v = .float .f32 (y.fl ja)
                    | 15 => ∃ i, v = .float .f32 ((bin .sub x y).fl i)
                    | 16 => ∃ i, v = .float .f32 ((bin .mul QV (bin .sub x y)).fl i)
                    | 17 => ∃ i, v = .float .f32 ((bin .add y (bin .mul QV (bin .sub x y))).fl i)
                    | 18 => v = .pointer (some ⟨g, u, none⟩)
                    | _ => v = undef) (fun listed _ w' => Sd W' g u (bin .add y (bin .mul QV (bin .sub x y))) (listed.getD 19 false) w') (by kernel_rfl) (by kernel_rfl) ⟨nq + 1, rfl⟩ ?_ ?_
                  · intro i o a w1 listed ho hsz hD hnot hall1 hd hsize hoff hlate hclos hdep
                    have hbel := hD.below HF.out
                    have t0 := hoff 0 (by decide)
                    have t6 := hoff 6 (by decide)
                    have t7 := hoff 7 (by decide)
                    have t8 := hoff 8 (by decide)
                    have t9 := hoff 9 (by decide)
                    have t10 := hoff 10 (by decide)
                    have hul2 : u < xs.length := by omega
                    match i, ho, hdep, hnot with
                    | 0, ho, hdep, hnot =>
                      cases ho
                      exact op_value rfl ⟨_, t6, (fun h => by cases h), rfl, hD.step 0 0 (by decide)⟩
                    | 1, ho, hdep, hnot =>
                      cases ho
                      exact op_value rfl ⟨_, t9, (fun h => by cases h), rfl, hD.step 1 0 (by decide)⟩
                    | 2, ho, hdep, hnot =>
                      cases ho
                      exact op_value rfl ⟨_, t0, (fun h => by cases h), rfl, hD.step 2 0 (by decide)⟩
                    | 3, ho, hdep, hnot =>
                      cases ho
                      exact op_value rfl ⟨_, t7, (fun h => by cases h), rfl, hD.step 3 0 (by decide)⟩
                    | 4, ho, hdep, hnot =>
                      cases ho
                      have d0 : a.tmps.getD 62 undef = .slice (some ⟨b, off, none⟩) xs.length c := hdep ⟨2, .data⟩ (by simp) rfl
                      have d1 : a.tmps.getD 63 undef = .int .i64 aa := hdep ⟨3, .data⟩ (by simp) rfl
                      exact op_value (exec_indexAddr d0 d1 hlta) ⟨_, rfl, (fun h => by cases h), rfl, hD.step 4 0 (by decide)⟩
                    | 5, ho, hdep, hnot =>
                      cases ho
                      have d0 : a.tmps.getD 64 undef = .pointer (some ⟨b, off + aa, none⟩) := hdep ⟨4, .data⟩ (by simp) rfl
                      exact op_value (exec_load22 (w := w1) (q := 0) d0 (by rw [hbel.cell (p := ⟨b, off + aa, none⟩) hb]; exact hca)) ⟨_, rfl, (fun h => by cases h), rfl, hD.step 5 0 (by decide)⟩
                    | 6, ho, hdep, hnot =>
                      cases ho
                      exact op_value rfl ⟨_, t10, (fun h => by cases h), rfl, hD.step 6 0 (by decide)⟩
                    | 7, ho, hdep, hnot =>
                      cases ho
                      exact op_value rfl ⟨_, t0, (fun h => by cases h), rfl, hD.step 7 0 (by decide)⟩
                    | 8, ho, hdep, hnot =>
                      cases ho
                      exact op_value rfl ⟨_, t8, (fun h => by cases h), rfl, hD.step 8 0 (by decide)⟩
                    | 9, ho, hdep, hnot =>
                      cases ho
                      have d0 : a.tmps.getD 67 undef = .slice (some ⟨b, off, none⟩) xs.length c := hdep ⟨7, .data⟩ (by simp) rfl
                      have d1 : a.tmps.getD 68 undef = .int .i64 n := hdep ⟨8, .data⟩ (by simp) rfl
                      exact op_value (exec_indexAddr d0 d1 hlt) ⟨_, rfl, (fun h => by cases h), rfl, hD.step 9 0 (by decide)⟩
                    | 10, ho, hdep, hnot =>
                      cases ho
                      have d0 : a.tmps.getD 69 undef = .pointer (some ⟨b, off + n, none⟩) := hdep ⟨9, .data⟩ (by simp) rfl
                      exact op_value (exec_load22 (w := w1) (q := 0) d0 (by rw [hbel.cell (p := ⟨b, off + n, none⟩) hb]; exact hcn)) ⟨_, rfl, (fun h => by cases h), rfl, hD.step 10 0 (by decide)⟩
                    | 11, ho, hdep, hnot =>
                      cases ho
                      exact op_value rfl ⟨_, t0, (fun h => by cases h), rfl, hD.step 11 0 (by decide)⟩
                    | 12, ho, hdep, hnot =>
                      cases ho
                      exact op_value rfl ⟨_, t7, (fun h => by cases h), rfl, hD.step 12 0 (by decide)⟩
                    | 13, ho, hdep, hnot =>
                      cases ho
                      have d0 : a.tmps.getD 71 undef = .slice (some ⟨b, off, none⟩) xs.length c := hdep ⟨11, .data⟩ (by simp) rfl
                      have d1 : a.tmps.getD 72 undef = .int .i64 aa := hdep ⟨12, .data⟩ (by simp) rfl
                      exact op_value (exec_indexAddr d0 d1 hlta) ⟨_, rfl, (fun h => by cases h), rfl, hD.step 13 0 (by decide)⟩
                    | 14, ho, hdep, hnot =>
                      cases ho
                      have d0 : a.tmps.getD 73 undef = .pointer (some ⟨b, off + aa, none⟩) := hdep ⟨13, .data⟩ (by simp) rfl
                      exact op_value (exec_load22 (w := w1) (q := 0) d0 (by rw [hbel.cell (p := ⟨b, off + aa, none⟩) hb]; exact hca)) ⟨_, rfl, (fun h => by cases h), rfl, hD.step 14 0 (by decide)⟩
                    | 15, ho, hdep, hnot =>
                      cases ho
                      have d0 : a.tmps.getD 70 undef = .float .f32 (x.fl jn) := hdep ⟨10, .data⟩ (by simp) rfl
                      have d1 : a.tmps.getD 74 undef = .float .f32 (y.fl ja) := hdep ⟨14, .data⟩ (by simp) rfl
                      exact op_arith (w := w1) (m := 0) rfl d0 d1 fun j1 n1 => ⟨_, ⟨j1, rfl⟩, (fun h => by cases h), rfl, hD.step 15 n1 (by decide)⟩
                    | 16, ho, hdep, hnot =>
                      cases ho
                      have d0 : a.tmps.getD 66 undef = .float .f32 (QV.fl jq) := hdep ⟨6, .data⟩ (by simp) rfl
                      obtain ⟨j1, d1⟩ : ∃ i, a.tmps.getD 75 undef = .float .f32 ((bin .sub x y).fl i) := hdep ⟨15, .data⟩ (by simp) rfl
                      exact op_arith (w := w1) (m := 0) rfl d0 d1 fun j1 n1 => ⟨_, ⟨j1, rfl⟩, (fun h => by cases h), rfl, hD.step 16 n1 (by decide)⟩
                    | 17, ho, hdep, hnot =>
                      cases ho
                      have d0 : a.tmps.getD 65 undef = .float .f32 (y.fl ja) := hdep ⟨5, .data⟩ (by simp) rfl
                      obtain ⟨j1, d1⟩ : ∃ i, a.tmps.getD 76 undef = .float .f32 ((bin .mul QV (bin .sub x y)).fl i) := hdep ⟨16, .data⟩ (by simp) rfl
                      exact op_arith (w := w1) (m := 0) rfl d0 d1 fun j1 n1 => ⟨_, ⟨j1, rfl⟩, (fun h => by cases h), rfl, hD.step 17 n1 (by decide)⟩
                    | 18, ho, hdep, hnot =>
                      cases ho
                      have d0 : a.tmps.getD 60 undef = .slice (some ⟨g, 0, none⟩) xs.length cc := hdep ⟨0, .data⟩ (by simp) rfl
                      have d1 : a.tmps.getD 61 undef = .int .i64 u := hdep ⟨1, .data⟩ (by simp) rfl
                      exact op_value (exec_indexAddr d0 d1 hul2) ⟨_, congrArg (fun k => Value.pointer (some ⟨g, k, none⟩)) (Nat.zero_add u), (fun h => by cases h), rfl, hD.step 18 0 (by decide)⟩
                    | 19, ho, hdep, hnot =>
                      cases ho
                      have d0 : a.tmps.getD 78 undef = .pointer (some ⟨g, u, none⟩) := hdep ⟨18, .data⟩ (by simp) rfl
                      obtain ⟨j1, d1⟩ : ∃ i, a.tmps.getD 77 undef = .float .f32 ((bin .add y (bin .mul QV (bin .sub x y))).fl i) := hdep ⟨17, .data⟩ (by simp) rfl
                      rw [hnot] at hD
                      obtain ⟨n1, rfl⟩ := hD
                      refine op_skip (exec_store22 d0 d1 HC3.out (HF.out.2.free u)) ⟨undef, rfl, (fun _ => rfl), rfl, ?_⟩
                      rw [listed_eq (by rw [hsz]; decide)]
                      exact ⟨n1, j1, rfl⟩
                    | i + 20, ho, _, _ => cases ho
                  · intro v hv w' listed hall2 hD
                    rw [hall2 19 (by decide)] at hD
                    obtain ⟨n1, i1, rfl⟩ := hD
                    clear hv hall2 hca hcn
                    simp only [putAll2, dstO, List.size_toArray, List.length_cons, List.length_nil, Nat.reduceAdd, List.range_succ, List.range_zero, List.nil_append, List.cons_append, List.foldl_cons, List.foldl_nil, Act.put, List.getElem?_toArray, List.getElem?_cons_succ, List.getElem?_cons_zero, Option.bind_some, List.setIfInBounds_toArray, List.set_cons_succ, List.set_cons_zero]
                    go_wp2_with (fail)
                    go_roundw
                    case rel =>
                      refine ⟨u + 1, _, _, by omega, by omega, by go_num, rfl, ?_⟩
                      have := HF.out.store (k := u) (j := i1) (by rw [mix_length (by omega)]; omega) (bin .add y (bin .mul QV (bin .sub x y)))
                      rw [← HV.out, mix_set (by omega), HV.out] at this
                      exact this
                    case measure => simp [intOf]; omega
                · obtain rfl : u = n := by omega
                  go_wp2_with (fail)
                  go_roundw
                  case rel => exact ⟨u + 1, _, W', by omega, by go_num, by rw [hla.out]; rfl, rfl, by rw [hla.out]; show Hid (Filling w W' g (mix xs ks (u + 1))); rw [← hmix.out]; exact HF⟩
                  case measure => simp [intOf]; omega
        · obtain rfl : n = xs.length := by omega
          cases hlast : lastK ks xs.length
          · have e : fillOk xs ks = false := by rw [fillOk, any_last, h2, hlast]; simp
            have E2 := Lib.hid e
            have e1 : lastV none = .int .i64 (-1) := rfl
            rw [e1]
            clear e e1 hlast
            go_wp2_with (fail)
            go_ret2
            exact ⟨_, _, W, _, by rw [E2.out]; rfl, rfl, HW.out.1, fun h => by rw [E2.out] at h; cases h⟩
          · rename_i aa
            have HL := Lib.hid hlast
            have hla2 := lastK_some' hlast
            have HW0 : Hid (Filling w W g (mix xs ks (aa + 1))) := by have := HW.out; rw [hlast] at this; exact this
            have e1 : lastV (some aa) = .int .i64 aa := rfl
            have e : fillOk xs ks = (fillL xs ks).all fun x => FV.isFin x := by rw [fillOk, any_last, h2, hlast, fillGate, h1, decide_eq_true h2]; rfl
            have E2 := Lib.hid e
            rw [e1]
            have han := hla2.1
            have HA := Lib.hid hla2
            have hga := Lib.hid (List.getElem?_eq_getElem han)
            generalize xs[aa] = y at *
            clear hlast e1 HW hla2 e
            go_wp2_with (fail)
            go_loopw [11] (fun k wr => ∃ (u : Nat) (q : Nat) (W : World), aa + 1 ≤ u ∧ u ≤ xs.length ∧ k = .int .i64 u ∧ wr = W.drewN q ∧ Hid (Filling w W g (mix xs ks u))) (fun k _ => xs.length - (intOf k).toNat)
            case atStart => exact ⟨aa + 1, q, W, Nat.le_refl _, by omega, by go_num, rfl, HW0⟩
            case round =>
              clear HW0
              obtain ⟨u, q', W', hau, hu, rfl, rfl, HF⟩ := hrel
              by_cases hun : u < xs.length
              · have hcell2 : ∃ j, W'.cell? ⟨b, off + aa, none⟩ = some (.float .f32 (y.fl j)) := (HR.out.below HF.out.1 hb) aa y hga.out
                obtain ⟨j2, hcell2⟩ := hcell2
                have hul : u < (mix xs ks u).length := by rw [mix_length (by omega)]; omega
                obtain ⟨v3, hcell3⟩ : ∃ v, W'.cell? ⟨g, u, none⟩ = some v := let ⟨_, h⟩ := HF.out.2.at hul; ⟨_, h⟩
                have hfz : W'.frozen? ⟨g, u, none⟩ = false := HF.out.2.free u
                have hv : fillV xs ks u = y := fillV_end (HA.out.2.2 u (by omega) hun) (lastK_some HA.out.2.1 (by omega) fun j h3 h4 => HA.out.2.2 j h3 (by omega)) (nextK_none fun j h3 h4 => HA.out.2.2 j (by omega) (by omega)) hga.out
                have HV := Lib.hid hv
                have h3' : (u : Int) < (xs.length : Int) := by omega
                have h4' : (aa : Int) < (xs.length : Int) := by omega
                clear hul hv
                go_wp2_with (fail)
                go_roundw
                case rel =>
                  refine ⟨u + 1, _, _, by omega, by omega, by go_num, rfl, ?_⟩
                  have := HF.out.store (k := u) (j := j2) (by rw [mix_length (by omega)]; omega) y
                  rw [← HV.out, mix_set (by omega), HV.out] at this
                  exact this
                case measure => simp [intOf]; omega
              · obtain rfl : u = xs.length := by omega
                have HF2 : Hid (Filling w W' g (fillL xs ks)) := by have := HF.out; rw [mix_all] at this; exact this
                have hlen := Lib.hid (fillL_length xs ks)
                have hcall := Lib.hid (fun m => l02FiniteS_any (some ⟨g, 0, none⟩) cc (fillL xs ks) W' m HF2.out.2.in32 (by rw [hlen.out]; exact hl))
                have hcall2 : Hid (∀ m, Calls Try.prog 81 #[.slice (some ⟨g, 0, none⟩) xs.length cc] (W'.drewN m) (RetB ((fillL xs ks).all fun x => FV.isFin x) W')) := fun m => by have := hcall.out m; rw [hlen.out] at this; exact this
                clear hcall HF
                cases hfin : (fillL xs ks).all (fun x => FV.isFin x)
                · have E3 : Hid (fillOk xs ks = false) := by show _ = _; rw [E2.out]; exact hfin
                  rw [hfin] at hcall2
                  clear hfin E2
                  go_wp2_with (go_at_call 81; refine (hcall2.out _).mono ?_; rintro e w' ⟨n, rfl, rfl⟩)
                  go_ret2
                  exact ⟨_, _, W', _, by rw [E3.out]; rfl, rfl, HF2.out.1, fun h => by rw [E3.out] at h; cases h⟩
                · have E3 : Hid (fillOk xs ks = true) := by show _ = _; rw [E2.out]; exact hfin
                  rw [hfin] at hcall2
                  clear hfin E2
                  go_wp2_with (go_at_call 81; refine (hcall2.out _).mono ?_; rintro e w' ⟨n, rfl, rfl⟩)
                  go_ret2
                  exact ⟨_, _, W', _, by rw [E3.out, if_pos rfl, hlen.out]; rfl, rfl, HF2.out.1, fun _ => ⟨g, rfl, HF2.out.2⟩⟩
    · have b2 : ((ks.length : Int) == (xs.length : Int)) = false := by rw [beq_eq_false_iff_ne]; omega
      have e : fillOk xs ks = false := by rw [fillOk, fillGate, decide_eq_false h2, Bool.and_false]; rfl
      rw [e]
      go_enter Try.func33, Try.ntmps33
      go_wp2_with (go_at_call 71; refine (l07Gauge_any _ _ _ _ _ HI.out hl).mono ?_; rintro e w' ⟨n, rfl, rfl⟩)
      go_ret2
      exact ⟨_, _, _, _, rfl, rfl, Below.refl _ _, fun h => by cases h⟩
end

end Go.Proofs.Ytnpgpkbnfibkkaa
