/- The walks: RecedeRate, the implementation. -/
import Derived.Test.YtnpgpkbnfibkkaaGl
import Derived.Laws.OwnMore
namespace Go.Proofs.Ytnpgpkbnfibkkaa
open Go.RowKit Go.FV

/-- These values are words of these floats. -/
def Is32 (vs : List Value) (fs : List (FV .f32)) : Prop := vs.length = fs.length ∧ ∀ (k : Nat) x, fs[k]? = some x → ∃ j, vs[k]? = some (.float .f32 (x.fl j))

theorem Is32.snoc {vs : List Value} {fs : List (FV .f32)} (h : Is32 vs fs) (x : FV .f32) (j : Nat) : Is32 (vs ++ [.float .f32 (x.fl j)]) (fs ++ [x]) := by
  refine ⟨by rw [List.length_append, List.length_append, h.1]; rfl, fun k y hy => ?_⟩
  by_cases hk : k < fs.length
  · rw [List.getElem?_append_left hk] at hy
    rw [List.getElem?_append_left (by rw [h.1]; exact hk)]
    exact h.2 k y hy
  · rw [List.getElem?_append_right (by omega)] at hy
    rw [List.getElem?_append_right (by rw [h.1]; omega), h.1]
    cases hkk : k - fs.length with
    | zero => rw [hkk] at hy; cases hy; exact ⟨j, rfl⟩
    | succ m => rw [hkk] at hy; cases hy

/-- The value v is a slice of the call's own that holds these floats. -/
def OwnsLogs (w W : World) (fs : List (FV .f32)) (v : Value) : Prop :=
  Below w.heap.size w W ∧ ∃ vs, Is32 vs fs ∧ W.ownsRow w.heap.size 22 1 v fs.length vs

theorem OwnsLogs.in32 {w W : World} {fs : List (FV .f32)} {v : Value} (h : OwnsLogs w W fs v) : ∃ p c, v = .slice p fs.length c ∧ In32 W p fs := by
  obtain ⟨hb, vs, hi, ho⟩ := h
  rcases ho.2 with ⟨rfl, hn⟩ | ⟨g, cap, cur, rfl, hbg, hg, hnc, hcm, hcs, htake⟩
  · rw [List.length_eq_zero_iff.1 hn]
    exact ⟨none, 0, rfl, fun h => absurd rfl h⟩
  · refine ⟨_, cap, rfl, fun _ => ⟨g, 0, rfl, (Array.getElem?_eq_some_iff.1 hg).1, fun k x hx => ?_⟩⟩
    obtain ⟨j, hj⟩ := hi.2 k x hx
    have := ho.cells rfl k _ hj
    rw [Addr.add_lit] at this
    exact ⟨j, this⟩

theorem OwnsLogs.nil (w : World) : OwnsLogs w (w.alloc (.cells #[] 22)) [] (.slice (some ⟨w.heap.size, 0, none⟩) 0 0) :=
  ⟨(Below.refl _ _).alloc (Nat.le_refl _) _, [], ⟨rfl, fun k x h => by cases h⟩, World.ownsRow_lit w #[] 0 (Nat.le_refl _) (Nat.zero_le _) rfl⟩

theorem exec_lit1 {a : Act} {w : World} {dst : Option Tmp} {s ty : Nat} {pos : String} {after : Array Edge} {g : Option (Nat × Bool)} {b : Nat}
    (hs : a.tmps.getD s undef = .float .f32 b) :
    (execOp a.eval ⟨dst, .buildSlice 33 1 #[(0, .tmp s)], ty, pos, after, g⟩).run Try.prog w = .ok (.value (.slice (some ⟨w.heap.size, 0, none⟩) 1 1)) (w.alloc (.cells #[.float .f32 b] 22)) := by
  have h0 : execOp a.eval ⟨dst, .buildSlice 33 1 #[(0, .tmp s)], ty, pos, after, g⟩ = (do let v ← Instr.buildSlice 33 1 (#[(0, .tmp s)].map fun (i, x) => (i, a.eval x)); pure (Next.value v)) := rfl
  rw [h0]
  have hs' : a.tmps[s]?.getD undef = .float .f32 b := by rw [← Array.getD_eq_getD_getElem?]; exact hs
  simp [Act.eval, hs', go_sem]

theorem OwnsLogs.grown {w W W' : World} {fs : List (FV .f32)} {v v' : Value} {x : FV .f32} {j : Nat} {vs : List Value} (h : OwnsLogs w W fs v) (hi : Is32 vs fs) (hv : W.ownsRow w.heap.size 22 1 v fs.length vs) {W1 : World} (hW1 : Below w.heap.size W W1)
    (ho : W'.ownsRow w.heap.size 22 1 v' (fs.length + 1) (vs ++ [.float .f32 (x.fl j)])) (hg : W1.grownBy W' v.ownBlock) : OwnsLogs w W' (fs ++ [x]) v' := by
  refine ⟨(h.1.trans hW1).grown hg ?_ fun k hk => (hv.lt k hk).1, _, hi.snoc x j, ?_⟩
  · exact Nat.le_trans h.1.size hW1.size
  · rw [List.length_append]; exact ho

section
attribute [local irreducible] Oper.wp

theorem op_append1 {dst : Option Tmp} {s x ty : Nat} {pos : String} {after : Array Edge} {g : Option (Nat × Bool)} {a : Act} {w W W1 : World} {q : Nat} {K : Act → World → Prop} {Q : Exit → Act → World → Prop} {fs : List (FV .f32)} {y : FV .f32} {i : Nat} {v : Value}
    (hl : fs.length ≤ 1048576) (ho : OwnsLogs w W fs v) (hW1 : W1 = W.alloc (.cells #[.float .f32 (y.fl i)] 22)) (hs : a.tmps.getD s undef = v) (hx : a.tmps.getD x undef = .slice (some ⟨W.heap.size, 0, none⟩) 1 1)
    (h : ∀ v' W2, OwnsLogs w W2 (fs ++ [y]) v' → K (a.put dst v') W2) :
    Oper.wp Try.prog ⟨dst, .call { callee := .builtin .append, args := #[.tmp s, .tmp x], argTypes := #[33, 33] }, ty, pos, after, g⟩ a (W1.drewN q) K Q := by
  obtain ⟨ti, hi, hz, hsz, hby⟩ := info_parts info22
  obtain ⟨vs, hi32, hown⟩ := ho.2
  subst hW1
  have hb : Below w.heap.size W ((W.alloc (.cells #[.float .f32 (y.fl i)] 22)).drewN q) := below_drawn ((Below.refl _ _).alloc ho.1.size _) q
  refine wp_append_own _ (.tmp s) (.tmp x) 33 rfl w.heap.size 22 ti (.float .f32 0) 1 4 Try.underlying33 hi hz hsz hby rfl (by decide) v fs.length vs hs ?_ ⟨W.heap.size, 0, none⟩ 1 1 [.float .f32 (y.fl i)] hx rfl ?_ ?_ ?_ ?_ ?_ ?_
  · exact (hown.alloc _)
  · intro j u hu
    match j, hu with
    | 0, hu => cases hu; exact cell_new1 W _ 22
  · intro u hu; rw [List.mem_singleton.1 hu]; rfl
  · unfold maxLen; omega
  · omega
  · exact Nat.le_trans ho.1.size hb.size
  · intro v' w' h2 h3 _
    exact h v' w' (ho.grown hi32 hown hb h2 h3)

/-- The world while a logarithm is appended: ahead of its slice; with it; with the row grown. -/
def St (w W : World) (L : List (FV .f32)) (Y : FV .f32) (l12 l13 l14 : Bool) (v49 v4 : Value) (w' : World) : Prop :=
  if l14 = true then ∃ n W2, w' = W2.drewN n ∧ OwnsLogs w W2 (L ++ [Y]) v4
  else if l13 = true then ∃ n W2, w' = W2.drewN n ∧ OwnsLogs w W2 (L ++ [Y]) v49
  else if l12 = true then ∃ n i, w' = (W.alloc (.cells #[.float .f32 (Y.fl i)] 22)).drewN n
  else ∃ n, w' = W.drewN n

theorem St.drew {w W : World} {L : List (FV .f32)} {Y : FV .f32} {l12 l13 l14 : Bool} {v49 v4 : Value} {w' : World} (h : St w W L Y l12 l13 l14 v49 v4 w') (k : Nat) : St w W L Y l12 l13 l14 v49 v4 (w'.drewN k) := by
  unfold St at h ⊢
  split
  · rw [if_pos (by assumption)] at h
    obtain ⟨n, W2, rfl, ho⟩ := h
    exact ⟨n + k, W2, World.drewN_drewN .., ho⟩
  · rw [if_neg (by assumption)] at h
    split
    · rw [if_pos (by assumption)] at h
      obtain ⟨n, W2, rfl, ho⟩ := h
      exact ⟨n + k, W2, World.drewN_drewN .., ho⟩
    · rw [if_neg (by assumption)] at h
      split
      · rw [if_pos (by assumption)] at h
        obtain ⟨n, i, rfl⟩ := h
        exact ⟨n + k, i, World.drewN_drewN ..⟩
      · rw [if_neg (by assumption)] at h
        obtain ⟨n, rfl⟩ := h
        exact ⟨n + k, World.drewN_drewN ..⟩

theorem St.below {w W : World} {L : List (FV .f32)} {Y : FV .f32} {l12 l13 l14 : Bool} {v49 v4 v : Value} {w' : World} (h : St w W L Y l12 l13 l14 v49 v4 w') (ho : OwnsLogs w W L v) : Below w.heap.size w w' := by
  unfold St at h
  split at h
  · obtain ⟨n, W2, rfl, ho⟩ := h
    exact below_drawn ho.1 n
  · split at h
    · obtain ⟨n, W2, rfl, ho⟩ := h
      exact below_drawn ho.1 n
    · split at h
      · obtain ⟨n, i, rfl⟩ := h
        exact below_drawn (ho.1.alloc ho.1.size _) n
      · obtain ⟨n, rfl⟩ := h
        exact below_drawn ho.1 n

/-- What an operation ahead of the last three leaves. -/
theorem St.step {w W : World} {L : List (FV .f32)} {Y : FV .f32} {listed : Array Bool} {a : Act} {w' : World} {i : Nat} {v : Value} (h : St w W L Y (listed.getD 12 false) (listed.getD 13 false) (listed.getD 14 false) (a.tmps.getD 49 undef) (a.tmps.getD 4 undef) w') (hi : i < 12) (k : Nat) :
    St w W L Y ((listed.setIfInBounds i true).getD 12 false) ((listed.setIfInBounds i true).getD 13 false) ((listed.setIfInBounds i true).getD 14 false) ((a.put (some (36 + i)) v).tmps.getD 49 undef) ((a.put (some (36 + i)) v).tmps.getD 4 undef) (w'.drewN k) := by
  rw [listed_ne (by omega), listed_ne (by omega), listed_ne (by omega), put_tmps, put_tmps, if_neg (by omega), if_neg (by omega)]
  exact h.drew k

set_option maxHeartbeats 1600000 in
theorem implRecede_all (p : Option Addr) (c : Nat) (xs : List (FV .f32)) (w : World) (m : Nat) (hin : In32 w p xs) (hl : xs.length ≤ 1048576) :
    Calls Try.prog 41 #[.slice p xs.length c] (w.drewN m) (RetFBb (condF (recedeOk xs) (recedeV xs)) (recedeOk xs && (recedeV xs).isFin) w) := by
  have HI := Lib.hid hin
  clear hin
  cases h1 : gaugeB xs
  · have e : recedeOk xs = false := by rw [recedeOk, recedeGate, h1]; rfl
    rw [e, condF_false, Bool.false_and]
    go_enter Try.func41, Try.ntmps41
    go_wp2_with (go_at_call 75; refine (isGauge_any _ _ _ _ _ HI.out hl).mono ?_; rintro e w' ⟨n, rfl, rfl⟩)
    go_ret2
    exact ⟨0, _, _, by rw [zero32]; rfl, rfl, Below.refl _ _⟩
  · by_cases h2 : (2 : Int) ≤ (xs.length : Int)
    · have b2 : decide ((xs.length : Int) < 2) = false := decide_eq_false (by omega)
      cases h3 : xs.all above
      · have e : recedeOk xs = false := by rw [recedeOk, recedeGate, h3, Bool.and_false]; rfl
        rw [e, condF_false, Bool.false_and]
        clear e
        go_enter Try.func41, Try.ntmps41
        go_wp2_with (first | (go_at_call 75; refine (isGauge_any _ _ _ _ _ HI.out hl).mono ?_; rintro e w' ⟨n, rfl, rfl⟩) | (go_at_call 67; refine (areLengths_any _ _ _ _ _ HI.out hl).mono ?_; rintro e w' ⟨n, rfl, rfl⟩))
        go_ret2
        exact ⟨0, _, _, by rw [zero32]; rfl, rfl, Below.refl _ _⟩
      · have HG := Lib.hid h1
        go_enter Try.func41, Try.ntmps41
        go_wp2_with (first | (go_at_call 75; refine (isGauge_any _ _ _ _ _ HI.out hl).mono ?_; rintro e w' ⟨n, rfl, rfl⟩) | (go_at_call 67; refine (areLengths_any _ _ _ _ _ HI.out hl).mono ?_; rintro e w' ⟨n, rfl, rfl⟩))
        go_loopw [4, 5] (fun v k wr => ∃ (n : Nat) (q : Nat) (W : World), 1 ≤ n ∧ n ≤ xs.length ∧ k = .int .i64 n ∧ wr = W.drewN q ∧ Hid (OwnsLogs w W (falls xs n) v)) (fun _ k _ => xs.length - (intOf k).toNat)
        case atStart => exact ⟨1, _, _, by omega, by omega, rfl, rfl, OwnsLogs.nil w⟩
        case round =>
          obtain ⟨n, q, W, hn1, hn, rfl, rfl, howns⟩ := hrel
          by_cases hlt : n < xs.length
          · obtain ⟨b, off, rfl, hb, hrow⟩ := HI.out (by intro e; rw [e] at hlt; simp at hlt)
            have hrowW := hrow.below howns.out.1 hb
            obtain ⟨j, hcell⟩ := hrowW n xs[n] (List.getElem?_eq_getElem hlt)
            have hg := Lib.hid (List.getElem?_eq_getElem hlt)
            have hle := falls_le xs n
            have hlt' : n - 1 < xs.length := by omega
            obtain ⟨j', hcell'⟩ := hrowW (n - 1) xs[n-1] (List.getElem?_eq_getElem hlt')
            have hg' := Lib.hid (List.getElem?_eq_getElem hlt')
            have HC1 : Hid (w.cell? ⟨b, off + n, none⟩ = some (.float .f32 (xs[n].fl j))) := by rw [← howns.out.1.cell (p := ⟨b, off + n, none⟩) hb]; exact hcell
            have HC2 : Hid (w.cell? ⟨b, off + (n - 1), none⟩ = some (.float .f32 (xs[n-1].fl j'))) := by rw [← howns.out.1.cell (p := ⟨b, off + (n - 1), none⟩) hb]; exact hcell'
            clear hrow hrowW
            have h1' : (n : Int) < (xs.length : Int) := by omega
            have h2' : (n : Int) - 1 < (xs.length : Int) := by omega
            have h3' : (0 : Int) ≤ (n : Int) - 1 := by omega
            generalize xs[n] = x at *
            generalize xs[n-1] = y at *
            cases hf : FV.lt x y
            · have hfa := Lib.hid (falls_skip hg.out hg'.out hf)
              unfold FV.lt at hf
              go_wp2_with (fail)
              go_quiet (fail)
              go_wp2_with (fail)
              go_roundw
              case rel => exact ⟨n + 1, _, W, by omega, by omega, by go_num, rfl, by rw [hfa.out]; exact howns⟩
              case measure => simp [intOf]; omega
            · have hfa := Lib.hid (falls_take hg.out hg'.out (by omega) hf)
              unfold FV.lt at hf
              go_wp2_with (fail)
              go_quiet (fail)
              go_wp2_with (fail)
              refine wp_region_inv3 (fun i v => match i with
                | 0 => v = u4
                | 1 => v = .slice (some ⟨b, off, none⟩) xs.length c
                | 2 => v = .int .i64 n
                | 3 => v = .pointer (some ⟨b, off + n, none⟩)
                | 4 => v = .float .f32 (x.fl j)
                | 5 => v = .slice (some ⟨b, off, none⟩) xs.length c
                | 6 => v = .int .i64 n
                | 7 => v = .int .i64 ((n - 1 : Nat) : Int)
                | 8 => v = .pointer (some ⟨b, off + (n - 1), none⟩)
                | 9 => v = .float .f32 (y.fl j')
                | 10 => ∃ i, v = .float .f32 ((bin .quo x y).fl i)
                | 11 => ∃ i, v = .float .f32 ((logF (bin .quo x y)).fl i)
                | 12 => v = .slice (some ⟨W.heap.size, 0, none⟩) 1 1
                | _ => True) (fun listed a w' => St w W (falls xs n) (logF (bin .quo x y)) (listed.getD 12 false) (listed.getD 13 false) (listed.getD 14 false) (a.tmps.getD 49 undef) (a.tmps.getD 4 undef) w') (by kernel_rfl) (by kernel_rfl) ⟨q + nq + 1, by rw [World.drewN_drewN]; rfl⟩ ?_ ?_
              · intro i o a w1 listed ho hsz hD hnot hall1 hd hsize hoff hlate hclos hdep
                have hbel := hD.below howns.out
                have t0 := hoff 0 (by decide)
                have t5 := hoff 5 (by decide)
                have hstep : ∀ (i : Nat) (v : Value) (k : Nat), i < 12 → _ := fun i v k hi => hD.step (v := v) hi k
                match i, ho, hdep, hnot with
                | 0, ho, hdep, hnot =>
                  cases ho
                  have e14 : listed.getD 14 false = false := by
                    cases h14 : listed.getD 14 false with
                    | false => rfl
                    | true =>
                      have h13 := hclos 14 _ rfl h14 ⟨13, .data⟩ (by simp) rfl
                      exact (hclos 13 _ rfl h13 ⟨0, .data⟩ (by simp) rfl).symm.trans hnot
                  have t4 := hlate 14 (by decide) e14
                  exact op_value rfl ⟨_, t4, rfl, hstep 0 _ 0 (by decide)⟩
                | 1, ho, hdep, _ => cases ho; exact op_value rfl ⟨_, t0, rfl, hstep 1 _ 0 (by decide)⟩
                | 2, ho, hdep, _ => cases ho; exact op_value rfl ⟨_, t5, rfl, hstep 2 _ 0 (by decide)⟩
                | 3, ho, hdep, _ =>
                  cases ho
                  have d0 : a.tmps.getD 37 undef = .slice (some ⟨b, off, none⟩) xs.length c := hdep ⟨1, .data⟩ (by simp) rfl
                  have d1 : a.tmps.getD 38 undef = .int .i64 n := hdep ⟨2, .data⟩ (by simp) rfl
                  exact op_value (exec_indexAddr d0 d1 hlt) ⟨_, rfl, rfl, hstep 3 _ 0 (by decide)⟩
                | 4, ho, hdep, _ =>
                  cases ho
                  have d0 : a.tmps.getD 39 undef = .pointer (some ⟨b, off + n, none⟩) := hdep ⟨3, .data⟩ (by simp) rfl
                  exact op_value (exec_load22 (w := w1) (q := 0) d0 (by rw [hbel.cell (p := ⟨b, off + n, none⟩) hb]; exact HC1.out)) ⟨_, rfl, rfl, hstep 4 _ 0 (by decide)⟩
                | 5, ho, hdep, _ => cases ho; exact op_value rfl ⟨_, t0, rfl, hstep 5 _ 0 (by decide)⟩
                | 6, ho, hdep, _ => cases ho; exact op_value rfl ⟨_, t5, rfl, hstep 6 _ 0 (by decide)⟩
                | 7, ho, hdep, _ =>
                  cases ho
                  have d0 : a.tmps.getD 42 undef = .int .i64 n := hdep ⟨6, .data⟩ (by simp) rfl
                  exact op_value (exec_sub1 d0 (by omega) (by omega)) ⟨_, rfl, rfl, hstep 7 _ 0 (by decide)⟩
                | 8, ho, hdep, _ =>
                  cases ho
                  have d0 : a.tmps.getD 41 undef = .slice (some ⟨b, off, none⟩) xs.length c := hdep ⟨5, .data⟩ (by simp) rfl
                  have d1 : a.tmps.getD 43 undef = .int .i64 ((n - 1 : Nat) : Int) := hdep ⟨7, .data⟩ (by simp) rfl
                  exact op_value (exec_indexAddr d0 d1 hlt') ⟨_, rfl, rfl, hstep 8 _ 0 (by decide)⟩
                | 9, ho, hdep, _ =>
                  cases ho
                  have d0 : a.tmps.getD 44 undef = .pointer (some ⟨b, off + (n - 1), none⟩) := hdep ⟨8, .data⟩ (by simp) rfl
                  exact op_value (exec_load22 (w := w1) (q := 0) d0 (by rw [hbel.cell (p := ⟨b, off + (n - 1), none⟩) hb]; exact HC2.out)) ⟨_, rfl, rfl, hstep 9 _ 0 (by decide)⟩
                | 10, ho, hdep, _ =>
                  cases ho
                  have d0 : a.tmps.getD 40 undef = .float .f32 (x.fl j) := hdep ⟨4, .data⟩ (by simp) rfl
                  have d1 : a.tmps.getD 45 undef = .float .f32 (y.fl j') := hdep ⟨9, .data⟩ (by simp) rfl
                  exact op_arith (w := w1) (m := 0) rfl d0 d1 fun j1 n1 => ⟨_, ⟨j1, rfl⟩, rfl, hstep 10 _ n1 (by decide)⟩
                | 11, ho, hdep, _ =>
                  cases ho
                  obtain ⟨j1, d0⟩ : ∃ i, a.tmps.getD 46 undef = .float .f32 ((bin .quo x y).fl i) := hdep ⟨10, .data⟩ (by simp) rfl
                  refine op_call' (exec_call1 Try.func65 (by decide) rfl d0) ((logNumber_any _ _ w1 0).mono fun e w' ⟨j2, n2, he, hw⟩ => ⟨_, he, _, ⟨j2, rfl⟩, rfl, ?_⟩)
                  rw [hw]
                  exact hstep 11 _ n2 (by decide)
                | 12, ho, hdep, hnot =>
                  cases ho
                  obtain ⟨j1, d1⟩ : ∃ i, a.tmps.getD 47 undef = .float .f32 ((logF (bin .quo x y)).fl i) := hdep ⟨11, .data⟩ (by simp) rfl
                  have e13 : listed.getD 13 false = false := by
                    cases h13 : listed.getD 13 false with
                    | false => rfl
                    | true => exact (hclos 13 _ rfl h13 ⟨12, .data⟩ (by simp) rfl).symm.trans hnot
                  have e14 : listed.getD 14 false = false := by
                    cases h14 : listed.getD 14 false with
                    | false => rfl
                    | true => exact (hclos 14 _ rfl h14 ⟨13, .data⟩ (by simp) rfl).symm.trans e13
                  rw [hnot, e13, e14] at hD
                  obtain ⟨n1, rfl⟩ := hD
                  refine op_value (exec_lit1 d1) ⟨_, rfl, rfl, ?_⟩
                  rw [listed_eq (by rw [hsz]; decide), listed_ne (by decide), listed_ne (by decide), e13, e14]
                  exact ⟨n1, j1, rfl⟩
                | 13, ho, hdep, hnot =>
                  cases ho
                  have d0 : a.tmps.getD 36 undef = u4 := hdep ⟨0, .data⟩ (by simp) rfl
                  have d1 : a.tmps.getD 48 undef = .slice (some ⟨W.heap.size, 0, none⟩) 1 1 := hdep ⟨12, .data⟩ (by simp) rfl
                  have e12 : listed.getD 12 false = true := hall1 ⟨12, .data⟩ (by simp) rfl
                  have e14 : listed.getD 14 false = false := by
                    cases h14 : listed.getD 14 false with
                    | false => rfl
                    | true => exact (hclos 14 _ rfl h14 ⟨13, .data⟩ (by simp) rfl).symm.trans hnot
                  rw [hnot, e12, e14] at hD
                  obtain ⟨n1, i1, rfl⟩ := hD
                  refine op_append1 (by omega) howns.out rfl d0 d1 fun v' W2 ho2 => ⟨_, trivial, rfl, ?_⟩
                  rw [listed_eq (by rw [hsz]; decide), listed_ne (by decide), listed_ne (by decide), e12, e14, put_tmps, if_pos ⟨rfl, by rw [hsize]; simp⟩]
                  exact ⟨0, W2, rfl, ho2⟩
                | 14, ho, hdep, hnot =>
                  cases ho
                  have e13 : listed.getD 13 false = true := hall1 ⟨13, .data⟩ (by simp) rfl
                  rw [hnot, e13] at hD
                  obtain ⟨n1, W2, rfl, ho2⟩ := hD
                  have e4 : (a.put (some 4) (a.tmps.getD 49 undef)).tmps.getD 4 undef = a.tmps.getD 49 undef := by rw [put_tmps, if_pos ⟨rfl, by rw [hsize]; simp⟩]
                  rw [← e4] at ho2
                  refine op_value rfl ⟨a.tmps.getD 49 undef, trivial, rfl, ?_⟩
                  rw [listed_eq (by rw [hsz]; decide)]
                  exact ⟨n1, W2, rfl, ho2⟩
                | i + 15, ho, _, _ => cases ho
              · intro v hv w' listed hall2 hD
                rw [hall2 14 (by decide)] at hD
                obtain ⟨q1, W2, rfl, ho2⟩ := hD
                have HO := Lib.hid ho2
                clear ho2 hv hall2
                simp only [putAll, dstAt, List.size_toArray, List.length_cons, List.length_nil, Nat.reduceAdd, List.range_succ, List.range_zero, List.nil_append, List.cons_append, List.foldl_cons, List.foldl_nil, Act.put, List.getElem?_toArray, List.getElem?_cons_succ, List.getElem?_cons_zero, Option.bind_some, Option.getD_some, List.setIfInBounds_toArray, List.set_cons_succ, List.set_cons_zero] at HO ⊢
                generalize v 14 = v14 at HO ⊢
                have HO2 : Hid (OwnsLogs w W2 (falls xs (n + 1)) v14) := by rw [hfa.out]; exact HO
                clear HO
                go_wp2_with (fail)
                go_roundw
                case rel => exact ⟨n + 1, _, W2, by omega, by omega, by go_num, rfl, HO2⟩
                case measure => simp [intOf]; omega
          · obtain rfl : n = xs.length := by omega
            have e : recedeGate xs = true := by rw [recedeGate, h1, h3, decide_eq_true (show 2 ≤ xs.length by omega)]; rfl
            obtain ⟨p', c', rfl, hinW⟩ := howns.out.in32
            have HIW := Lib.hid hinW
            clear hinW
            have hle := falls_le xs xs.length
            cases hem : (falls xs xs.length).isEmpty
            · have e2 : recedeOk xs = true := by rw [recedeOk, e, hem]; rfl
              have hz : (((falls xs xs.length).length : Int) == 0) = false := by
                refine beq_eq_false_iff_ne.2 fun h => ?_
                have h' : (falls xs xs.length).length = 0 := by omega
                rw [List.length_eq_zero_iff.1 h'] at hem; cases hem
              have E2 := Lib.hid e2
              clear e e2 hem
              go_wp2_with (first | (go_at_call 76; refine (mean_any _ _ _ _ _ HIW.out (by omega)).mono ?_; rintro e w' ⟨j, n, rfl, rfl⟩) | (go_at_call 60; refine (finite32_any _ _ _ _).mono ?_; rintro e w' ⟨j, n, rfl, rfl⟩) | (refine wp_neg rfl rfl ?_; intro _))
              go_ret2
              exact ⟨_, _, _, by rw [E2.out, condF_true, Bool.true_and]; rfl, rfl, howns.out.1⟩
            · have e2 : recedeOk xs = false := by rw [recedeOk, hem]; simp
              have hz : (((falls xs xs.length).length : Int) == 0) = true := by
                rw [List.isEmpty_iff.1 hem]; rfl
              have E2 := Lib.hid e2
              clear e e2 hem
              go_wp2_with (fail)
              go_ret2
              exact ⟨0, _, _, by rw [E2.out, condF_false, Bool.false_and, zero32]; rfl, rfl, howns.out.1⟩
    · have b2 : decide ((xs.length : Int) < 2) = true := decide_eq_true (by omega)
      have e : recedeOk xs = false := by rw [recedeOk, recedeGate, decide_eq_false (show ¬ 2 ≤ xs.length by omega), Bool.and_false]; rfl
      rw [e, condF_false, Bool.false_and]
      go_enter Try.func41, Try.ntmps41
      go_wp2_with (go_at_call 75; refine (isGauge_any _ _ _ _ _ HI.out hl).mono ?_; rintro e w' ⟨n, rfl, rfl⟩)
      go_ret2
      exact ⟨0, _, _, by rw [zero32]; rfl, rfl, Below.refl _ _⟩
end

end Go.Proofs.Ytnpgpkbnfibkkaa
