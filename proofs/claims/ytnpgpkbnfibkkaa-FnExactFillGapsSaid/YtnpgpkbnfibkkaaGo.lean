/- The walks: rows of bools copied, compared, searched. -/
import Derived.Test.YtnpgpkbnfibkkaaGk
import Derived.Deep.QuietTactic
import Derived.BigQuiet
namespace Go.Proofs.Ytnpgpkbnfibkkaa
open Go.RowKit Go.FV

theorem info4 : (Try.prog.info? 4).map (fun i => (i.zero, i.size, i.bytes)) = some (some (.bool false), 1, 1) := by kernel_rfl

theorem makeB (n : Nat) (hn : n ≤ 1048576) (W : World) : (Instr.makeSlice 42 (.int .i64 (n : Int)) (.int .i64 (n : Int))).run Try.prog W =
    .ok (.slice (some ⟨W.heap.size, 0, none⟩) n n) (W.alloc (.cells (Array.replicate n (.bool false)) 4)) := by
  obtain ⟨i, hi, hz, hs, hb⟩ := info_parts info4
  have h := run_make (P := Try.prog) W 42 4 i _ Try.underlying42 hi hz .i64 .i64 (n : Int) (n : Int) (by omega) (by omega) (by rw [hb]; omega) (by omega)
  rw [h, hs]
  have e : madeCells (Value.bool false).cells ((n : Int).toNat * 1) = Array.replicate n (.bool false) := by
    have := toList_madeCells_one (.bool false) n
    rw [Int.toNat_natCast, Nat.mul_one]
    apply Array.toList_inj.1
    rw [Array.toList_replicate]
    exact this
  rw [e]; rfl

def RowB (w : World) (b off : Nat) (ks : List Bool) : Prop := ∀ (k : Nat) x, ks[k]? = some x → w.cell? ⟨b, off + k, none⟩ = some (.bool x)
def InB (w : World) (p : Option Addr) (ks : List Bool) : Prop := ks ≠ [] → ∃ b off, p = some ⟨b, off, none⟩ ∧ b < w.heap.size ∧ RowB w b off ks
structure OwnB (B : Nat) (w : World) (b : Nat) (ks : List Bool) : Prop where
  new : B ≤ b
  lt : b < w.heap.size
  row : RowB w b 0 ks
  free : ∀ o, w.frozen? ⟨b, o, none⟩ = false
def NewRowB (ks : List Bool) (w : World) (e : Ending) (w' : World) : Prop :=
  ∃ b w1 n, e = .returned (.slice (some ⟨b, 0, none⟩) ks.length ks.length) ∧ w' = w1.drewN n ∧ Below w.heap.size w w1 ∧ OwnB w.heap.size w1 b ks

theorem InB.below {w w1 : World} {p : Option Addr} {ks : List Bool} (h : InB w p ks) (hb : Below w.heap.size w w1) : InB w1 p ks := by
  intro hne
  obtain ⟨b, off, hp, hlt, hr⟩ := h hne
  exact ⟨b, off, hp, Nat.lt_of_lt_of_le hlt hb.size, fun k x hk => by rw [hb.cell (p := ⟨b, off + k, none⟩) hlt]; exact hr k x hk⟩
theorem OwnB.inB {B : Nat} {w : World} {b : Nat} {ks : List Bool} (h : OwnB B w b ks) : InB w (some ⟨b, 0, none⟩) ks := fun _ => ⟨b, 0, rfl, h.lt, h.row⟩

set_option maxHeartbeats 400000 in
theorem toBoolS_any (p : Option Addr) (c : Nat) (xs : List Bool) (w : World) (m : Nat) (hin : InB w p xs) (hl : xs.length ≤ 1048576) :
    Calls Try.prog 34 #[.slice p xs.length c] (w.drewN m) (NewRowB xs w) := by
  have hmk := makeB xs.length hl
  have HI := Lib.hid hin
  clear hin
  go_enter Try.func34, Try.ntmps34
  go_wp2_with (fail)
  clear hmk
  go_loopw [4] (fun k wr => ∃ (n : Nat) (arr : Array Value) (q : Nat), n ≤ xs.length ∧ k = .int .i64 n ∧ wr = (w.alloc (.cells arr 4)).drewN q ∧ arr.size = xs.length ∧
      (∀ (j : Nat) x, j < n → xs[j]? = some x → arr[j]? = some (.bool x))) (fun k _ => xs.length - (intOf k).toNat)
  case atStart => exact ⟨0, Array.replicate xs.length (.bool false), _, Nat.zero_le _, rfl, rfl, by simp, fun j x hj => by omega⟩
  case round =>
    obtain ⟨n, arr, q, hn, rfl, rfl, hs, ha⟩ := hrel
    have HA := Lib.hid ha
    have HS := Lib.hid hs
    clear ha hs
    by_cases hlt : n < xs.length
    · obtain ⟨b, off, rfl, hb, hrow⟩ := HI.out (by intro e; rw [e] at hlt; simp at hlt)
      have hcell := hrow n xs[n] (List.getElem?_eq_getElem hlt)
      clear hrow
      have hg := Lib.hid (List.getElem?_eq_getElem hlt)
      generalize xs[n] = x at *
      have hc1 : ((w.alloc (.cells arr 4)).drewN q).cell? ⟨b, off + n, none⟩ = some (.bool x) := by
        rw [World.cell?_drewN, World.cell?_alloc_past _ _ _ hb]; exact hcell
      have hsz : n < arr.size := by have := HS.out; omega
      obtain ⟨u, hu⟩ : ∃ u, arr[n]? = some u := ⟨arr[n], Array.getElem?_eq_getElem hsz⟩
      have hc2 : ((w.alloc (.cells arr 4)).drewN q).cell? ⟨w.heap.size, n, none⟩ = some u := by
        rw [World.cell?_drewN, World.cell?_alloc_new]; exact hu
      go_wp2_with (fail)
      go_roundw
      case rel =>
        refine ⟨n + 1, _, _, by omega, by go_num, rfl, by rw [Array.size_setIfInBounds]; exact HS.out, fun i y hi hy => ?_⟩
        rw [Array.getElem?_setIfInBounds]
        by_cases hin : n = i
        · subst hin
          rw [hg.out] at hy; cases hy
          rw [if_pos rfl, if_pos hsz]
        · rw [if_neg hin]
          exact HA.out i y (by omega) hy
      case measure => simp [intOf]; omega
    · obtain rfl : n = xs.length := by omega
      go_wp2_with (fail)
      go_ret
      refine ⟨_, _, _, rfl, rfl, (Below.refl _ _).alloc (Nat.le_refl _) _, Nat.le_refl _, by simp, ?_, fun o => World.frozen?_alloc_new w arr 4 o⟩
      intro i y hy
      rw [World.cell?_alloc_new, Nat.zero_add]
      exact HA.out i y (List.getElem?_eq_some_iff.1 hy).1 hy

theorem eqBoolS_any (p p' : Option Addr) (c c' : Nat) (xs : List Bool) (w : World) (m : Nat) (hin : InB w p xs) (hin' : InB w p' xs) (hl : xs.length ≤ 1048576) :
    Calls Try.prog 36 #[.slice p xs.length c, .slice p' xs.length c'] (w.drewN m) (RetB true w) := by
  have HI := Lib.hid hin
  have HI' := Lib.hid hin'
  clear hin hin'
  go_enter Try.func36, Try.ntmps36
  go_wp2_with (fail)
  go_loopw [5] (fun k wr => ∃ (n : Nat) (q : Nat), n ≤ xs.length ∧ k = .int .i64 n ∧ wr = w.drewN q) (fun k _ => xs.length - (intOf k).toNat)
  case atStart => exact ⟨0, _, Nat.zero_le _, rfl, rfl⟩
  case round =>
    obtain ⟨n, q, hn, rfl, rfl⟩ := hrel
    by_cases hlt : n < xs.length
    · obtain ⟨b, off, rfl, hb, hrow⟩ := HI.out (by intro e; rw [e] at hlt; simp at hlt)
      obtain ⟨b', off', rfl, hb', hrow'⟩ := HI'.out (by intro e; rw [e] at hlt; simp at hlt)
      have hcell := hrow n xs[n] (List.getElem?_eq_getElem hlt)
      have hcell' := hrow' n xs[n] (List.getElem?_eq_getElem hlt)
      have h1' : (n : Int) < (xs.length : Int) := by omega
      clear hrow hrow'
      generalize xs[n] = x at *
      go_wp2_with (fail)
      go_quiet (fail)
      go_wp2_with (fail)
      go_roundw
      case rel => exact ⟨n + 1, _, by omega, by go_num, by first | rfl | exact World.drewN_drewN ..⟩
      case measure => simp [intOf]; omega
    · obtain rfl : n = xs.length := by omega
      go_wp2_with (fail)
      go_ret
      exact ⟨_, rfl, rfl⟩

/-- slices.Contains(known, true). -/
theorem indexTrue_any (p : Option Addr) (c : Nat) (xs : List Bool) (w : World) (m : Nat) (hin : InB w p xs) (hl : xs.length ≤ 1048576) :
    Calls Try.prog 108 #[.slice p xs.length c, .bool true] (w.drewN m) (fun e w' => ∃ (i : Int) (n : Nat), e = .returned (.int .i64 i) ∧ w' = w.drewN n ∧ decide (0 ≤ i) = xs.any id) := by
  have HI := Lib.hid hin
  clear hin
  go_enter Try.func108, Try.ntmps108
  go_wp2_with (fail)
  go_loopw [8] (fun k wr => ∃ (n : Nat) (q : Nat), n ≤ xs.length ∧ k = .int .i64 n ∧ wr = w.drewN q ∧ Hid ((xs.take n).any id = false)) (fun k _ => xs.length - (intOf k).toNat)
  case atStart => exact ⟨0, _, Nat.zero_le _, rfl, rfl, rfl⟩
  case round =>
    obtain ⟨n, q, hn, rfl, rfl, hall⟩ := hrel
    by_cases hlt : n < xs.length
    · obtain ⟨b, off, rfl, hb, hrow⟩ := HI.out (by intro e; rw [e] at hlt; simp at hlt)
      have hcell := hrow n xs[n] (List.getElem?_eq_getElem hlt)
      have hg := Lib.hid (List.getElem?_eq_getElem hlt)
      clear hrow
      generalize xs[n] = x at *
      cases x
      · go_wp2_with (fail)
        go_roundw
        case rel => exact ⟨n + 1, _, by omega, by go_num, rfl, by show List.any _ id = false; rw [take_snoc hg.out, List.any_append, hall.out]; rfl⟩
        case measure => simp [intOf]; omega
      · go_wp2_with (fail)
        go_ret
        refine ⟨_, _, rfl, rfl, ?_⟩
        rw [decide_eq_true (by omega)]
        exact (List.any_eq_true.2 ⟨true, List.mem_of_getElem? hg.out, rfl⟩).symm
    · obtain rfl : n = xs.length := by omega
      have ha := hall.out
      rw [List.take_length] at ha
      have HA := Lib.hid ha
      clear ha
      go_wp2_with (fail)
      go_ret
      exact ⟨_, _, rfl, rfl, by rw [HA.out]; rfl⟩

theorem containsTrue_any (p : Option Addr) (c : Nat) (xs : List Bool) (w : World) (m : Nat) (hin : InB w p xs) (hl : xs.length ≤ 1048576) :
    Calls Try.prog 82 #[.slice p xs.length c, .bool true] (w.drewN m) (RetB (xs.any id) w) := by
  have HI := Lib.hid hin
  clear hin
  go_enter Try.func82, Try.ntmps82
  go_wp2_with (go_at_call 108; refine (indexTrue_any _ _ _ _ _ HI.out hl).mono ?_; rintro e w' ⟨i, n, rfl, rfl, hd⟩; have HD := Lib.hid hd; clear hd)
  go_ret
  exact ⟨_, by rw [← HD.out]; rfl, rfl⟩

end Go.Proofs.Ytnpgpkbnfibkkaa
