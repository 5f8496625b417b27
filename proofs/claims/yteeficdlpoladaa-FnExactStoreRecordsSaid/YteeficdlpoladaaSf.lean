/- The walks: slices.Grow and slices.Concat at bytes. -/
import Derived.Test.YteeficdlpoladaaSe
import Derived.Lib.AppendZeros
namespace Go.Proofs.Yteeficdlpoladaa
open Go.RowKit Go.FV

section
attribute [local irreducible] Oper.wp
theorem op_bytes {dst : Option Tmp} {s x ty : Nat} {pos : String} {after : Array Edge} {g : Option (Nat × Bool)} {a : Act} {w W : World} {q B : Nat} {K : Act → World → Prop} {Q : Exit → Act → World → Prop} {xs ys : List UInt8} {v : Value} {ad : Option Addr} {c : Nat}
    (hl : xs.length + ys.length ≤ 1048577) (hne : ys ≠ []) (ho : GrowB B w W xs v) (hr : ReadB W ad ys) (hs : a.tmps.getD s undef = v) (hx : a.tmps.getD x undef = .slice ad ys.length c)
    (h : ∀ v' W2, GrowB B w W2 (xs ++ ys) v' → K (a.put dst v') W2) :
    Oper.wp Try.prog ⟨dst, .call { callee := .builtin .append, args := #[.tmp s, .tmp x], argTypes := #[54, 54] }, ty, pos, after, g⟩ a (W.drewN q) K Q := by
  obtain ⟨ti, hi, hz, hsz, hby⟩ := info_parts info5
  have hown := ho.row
  obtain ⟨gb, off, rfl, hgb, hrow⟩ := hr hne
  have hb : Below B W (W.drewN q) := below_drawn (Below.refl _ _) q
  refine wp_append_own _ (.tmp s) (.tmp x) 54 rfl B 5 ti (.int .u8 0) 1 1 Try.underlying54 hi hz hsz hby rfl (by decide) v xs.length (xs.map bv) hs hown ⟨gb, off, none⟩ ys.length c (ys.map bv) hx (by simp) ?_ ?_ ?_ ?_ ?_ ?_
  · intro j u hu
    rw [List.getElem?_map] at hu
    cases hy : ys[j]? with
    | none => rw [hy] at hu; cases hu
    | some y =>
      rw [hy] at hu
      cases hu
      rw [Addr.add_lit]
      exact hrow j y hy
  · intro u hu
    obtain ⟨y, -, rfl⟩ := List.mem_map.1 hu
    rfl
  · unfold maxLen; omega
  · omega
  · exact Nat.le_trans ho.base hb.size
  · intro v' w' h2 h3 _
    refine h v' w' ⟨(ho.below.trans hb).grown h3 (Nat.le_trans ho.base hb.size) fun k hk => (hown.lt k hk).1, Nat.le_trans ho.base (Nat.le_trans hb.size h3.size), ?_⟩
    rw [List.length_append, List.map_append]
    exact h2
end
theorem wpl_bytes {ops : Array Oper} {rest : List Oper} {dst : Option Tmp} {s x ty : Nat} {pos : String} {after : Array Edge} {a : Act} {w W : World} {q B : Nat} {Q : Exit → Act → World → Prop} {xs ys : List UInt8} {v : Value} {ad : Option Addr} {c : Nat}
    (hl : xs.length + ys.length ≤ 1048577) (hne : ys ≠ []) (ho : GrowB B w W xs v) (hr : ReadB W ad ys) (hs : a.tmps.getD s undef = v) (hx : a.tmps.getD x undef = .slice ad ys.length c)
    (h : ∀ v' W2, GrowB B w W2 (xs ++ ys) v' → wpList Try.prog ops Q rest (a.put dst v') W2) :
    wpList Try.prog ops Q (⟨dst, .call { callee := .builtin .append, args := #[.tmp s, .tmp x], argTypes := #[54, 54] }, ty, pos, after, none⟩ :: rest) a (W.drewN q) :=
  wpList_plain rfl fun _ hK => op_bytes hl hne ho hr hs hx fun v' W2 h2 => hK _ _ (h v' W2 h2)

/-- Room for n bytes, nothing in it yet. -/
theorem grow_run (n : Nat) (h0 : 0 < n) (hn : n ≤ 1048576) (ty : TypeId) (w : World) : ∃ c W, (Builtin.append_ #[54, 3] ty #[.slice none 0 0, .int .i64 (n : Int)]).run Try.prog w = .ok (.slice (some ⟨w.heap.size, 0, none⟩) n c) W ∧ n ≤ c ∧ Below w.heap.size w W ∧
    W.ownsRow w.heap.size 5 1 (.slice (some ⟨w.heap.size, 0, none⟩) 0 c) 0 [] := by
  obtain ⟨ti, hi, hz, hsz, hby⟩ := info_parts info5
  have hr := Lib.run_append_nil_zeros (P := Try.prog) w 54 3 ty 5 ti (.int .u8 0) .i64 .i64 Try.underlying54 Try.underlying3 hi hz n h0 (by rw [hsz]; decide) (by omega) (by rw [hby]; omega)
  have hge := grownCap_ge w n 0 5
  have hcm := grownCap_le_maxLen w n 0 5 (by unfold maxLen; omega)
  refine ⟨_, _, hr, hge, (Below.drew (Below.refl _ _)).alloc (Nat.le_refl _) _, World.ownsRow_made w.drew _ _ (Nat.le_refl _) hcm ?_⟩
  simp only [Array.size_append, size_zeroCells]
  have : (Value.int IntKind.u8 0).cells.size = 1 := rfl
  rw [this]
  omega

theorem grow_any (n : Nat) (w : World) (m : Nat) (h0 : 0 < n) (hn : n ≤ 1048576) :
    Calls Try.prog 49 #[.slice none 0 0, .int .i64 (n : Int)] (w.drewN m) (NewBytes [] w) := by
  have h0' : (0 : Int) < (n : Int) := by omega
  go_enter Try.func49, Try.ntmps49
  obtain ⟨c, W, hrun, hc, hb, ho⟩ := grow_run n h0 hn 54 (w.drewN m)
  go_wp2_with (at_builtin; refine Lib.wpList_append_run _ rfl _ _ _ _ rfl _ _ rfl rfl _ _ hrun ?_)
  go_ret
  exact ⟨_, W, 0, rfl, rfl, (below_drawn (Below.refl w.heap.size w) m).trans hb, hb.size, ho⟩

/-- A row of rows of bytes. -/
structure InSS (w : World) (g : Nat) (ss : List (List UInt8)) : Prop where
  lt : g < w.heap.size
  row : ∀ (k : Nat) l, ss[k]? = some l → ∃ a c, w.cell? ⟨g, k, none⟩ = some (.slice a l.length c) ∧ ReadB w a l
theorem InSS.below {w w1 : World} {g : Nat} {ss : List (List UInt8)} (h : InSS w g ss) (hb : Below w.heap.size w w1) : InSS w1 g ss :=
  ⟨Nat.lt_of_lt_of_le h.lt hb.size, fun k l hk => by
    obtain ⟨a, c, h1, h2⟩ := h.row k l hk
    exact ⟨a, c, by rw [hb.cell (p := ⟨g, k, none⟩) h.lt]; exact h1, h2.below hb⟩⟩

theorem flat_snoc {ss : List (List UInt8)} {n : Nat} {l : List UInt8} (h : ss[n]? = some l) : (ss.take (n + 1)).flatten = (ss.take n).flatten ++ l := by
  rw [take_snoc h, List.flatten_append]; simp
theorem flat_le (ss : List (List UInt8)) (n : Nat) : (ss.take n).flatten.length ≤ ss.flatten.length := by
  conv => rhs; rw [← List.take_append_drop n ss, List.flatten_append, List.length_append]
  omega

set_option maxHeartbeats 400000 in
theorem concat_any (g c : Nat) (ss : List (List UInt8)) (w : World) (m : Nat) (hin : InSS w g ss) (hne : ∀ l ∈ ss, l ≠ []) (hss : ss ≠ []) (hl : ss.flatten.length ≤ 1048576) (hlen : ss.length ≤ 1048576) :
    Calls Try.prog 41 #[.slice (some ⟨g, 0, none⟩) ss.length c] (w.drewN m) (NewBytes ss.flatten w) := by
  have HI := Lib.hid hin
  have HNE := Lib.hid hne
  have hpos : 0 < ss.flatten.length := by
    cases ss with
    | nil => exact absurd rfl hss
    | cons l ls =>
      have := hne l (List.mem_cons_self ..)
      have := List.length_pos_iff.2 this
      rw [List.flatten_cons, List.length_append]; omega
  clear hin hne hss
  go_enter Try.func41, Try.ntmps41
  go_wp2_with (fail)
  go_loopw [3, 11] (fun s k wr => ∃ (n q : Nat), k = .int .i64 n ∧ wr = w.drewN q ∧ n ≤ ss.length ∧ s = .int .i64 ((ss.take n).flatten.length : Nat)) (fun _ k _ => ss.length - (intOf k).toNat)
  case atStart => exact ⟨0, _, rfl, rfl, Nat.zero_le _, rfl⟩
  case round =>
    obtain ⟨n, q, rfl, rfl, hn, rfl⟩ := hrel
    have hfl := flat_le ss n
    by_cases hlt : n < ss.length
    · have HX := Lib.hid (List.getElem?_eq_getElem hlt)
      obtain ⟨a, cl, hcell, -⟩ := HI.out.row n ss[n] HX.out
      have hfl2 := flat_le ss (n + 1)
      have hsn := flat_snoc HX.out
      rw [hsn, List.length_append] at hfl2
      have HSN := Lib.hid (congrArg List.length hsn)
      rw [List.length_append] at HSN
      have hlt' : (n : Int) < (ss.length : Int) := by omega
      clear hsn
      generalize ss[n] = l at *
      generalize hf : (ss.take n).flatten.length = F at *
      have HF := Lib.hid hf
      clear hf
      go_wp2_with (fail)
      go_roundw
      case rel => exact ⟨n + 1, _, by go_num, rfl, by omega, by rw [HSN.out]; go_num⟩
      case measure => simp [intOf]; omega
    · obtain rfl : n = ss.length := by omega
      rw [List.take_length]
      generalize hF : ss.flatten.length = F at *
      have HF := Lib.hid hF
      clear hF hfl
      go_wp2_with (go_at_call 49; refine (grow_any F w _ hpos hl).mono ?_; rintro e w' ⟨v, W, q2, rfl, rfl, hg⟩; have HG := Lib.hid hg; clear hg)
      go_loopw [6, 27] (fun v k wr => ∃ (n q : Nat) (W : World), k = .int .i64 n ∧ wr = W.drewN q ∧ n ≤ ss.length ∧ Hid (GrowB w.heap.size w W (ss.take n).flatten v)) (fun _ k _ => ss.length - (intOf k).toNat)
      case atStart => exact ⟨0, _, W, rfl, rfl, Nat.zero_le _, HG.out⟩
      case round =>
        obtain ⟨n, q3, W3, rfl, rfl, hn2, HG3⟩ := hrel
        by_cases hlt2 : n < ss.length
        · have HX := Lib.hid (List.getElem?_eq_getElem hlt2)
          obtain ⟨a, cl, hcell, hrd⟩ := (HI.out.below HG3.out.below).row n ss[n] HX.out
          have HRD := Lib.hid hrd
          have HNL := Lib.hid (HNE.out ss[n] (List.getElem_mem hlt2))
          have hfl2 := flat_le ss (n + 1)
          have hsn := flat_snoc HX.out
          rw [hsn, List.length_append, HF.out] at hfl2
          have HSN := Lib.hid hsn
          have hlt' : (n : Int) < (ss.length : Int) := by omega
          clear hsn hrd
          generalize ss[n] = l at *
          go_wp2_with (at_builtin; refine wpl_bytes (by omega) HNL.out HG3.out HRD.out rfl rfl ?_; intro v' W4 HG4)
          go_roundw
          case rel => exact ⟨n + 1, 0, W4, by go_num, rfl, by omega, by rw [HSN.out]; exact HG4⟩
          case measure => simp [intOf]; omega
        · obtain rfl : n = ss.length := by omega
          go_wp2_with (fail)
          go_ret
          have hg := HG3.out
          rw [List.take_length] at hg
          exact ⟨_, W3, _, rfl, rfl, hg⟩
end Go.Proofs.Yteeficdlpoladaa
