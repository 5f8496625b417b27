/- The walks: rows marked, and marks held. -/
import Derived.Test.YtnpgpkbnfibkkaaGs
namespace Go.Proofs.Ytnpgpkbnfibkkaa
open Go.RowKit Go.FV

/-- Only block g may have turned. -/
structure OnlyAt (g : Nat) (w w' : World) : Prop where
  os : w'.os = w.os
  tape : w'.tape = w.tape
  output : w'.output = w.output
  size : w'.heap.size = w.heap.size
  block : ∀ k, k ≠ g → w'.heap[k]? = w.heap[k]?
  frozen : ∀ o, w'.frozen? ⟨g, o, none⟩ = w.frozen? ⟨g, o, none⟩

theorem OnlyAt.refl (g : Nat) (w : World) : OnlyAt g w w := ⟨rfl, rfl, rfl, rfl, fun _ _ => rfl, fun _ => rfl⟩
theorem OnlyAt.store {g k : Nat} {a w : World} (h : OnlyAt g a w) (v : Value) : OnlyAt g a (w.setCell ⟨g, k, none⟩ v) :=
  ⟨h.os, h.tape, h.output, by rw [← h.size]; simp [World.setCell], fun i hi => by rw [Below.heap_setCell _ _ _ _ hi]; exact h.block i hi, fun o => by rw [World.frozen?_setCell]; exact h.frozen o⟩
theorem OnlyAt.below {g B : Nat} {w w' : World} (h : OnlyAt g w w') (hB : B ≤ g) : Below B w w' := ⟨h.os, h.tape, h.output, by rw [h.size]; exact Nat.le_refl _, fun k hk => h.block k (by omega)⟩
theorem OnlyAt.cell {g : Nat} {w w' : World} (h : OnlyAt g w w') {p : Addr} (hp : p.block ≠ g) : w'.cell? p = w.cell? p := World.cell?_of_block (h.block p.block hp)
theorem OnlyAt.own32 {g B b : Nat} {w w' : World} {xs : List (FV .f32)} (h : OnlyAt g w w') (ho : Own32 B w b xs) (hne : b ≠ g) : Own32 B w' b xs :=
  ⟨ho.new, by rw [h.size]; exact ho.lt, fun k x hx => by rw [h.cell (p := ⟨b, 0 + k, none⟩) hne]; exact ho.row k x hx, fun o => by rw [World.frozen?_of_block (w := w) (h.block b hne)]; exact ho.free o⟩
theorem OnlyAt.ownB {g B b : Nat} {w w' : World} {xs : List Bool} (h : OnlyAt g w w') (ho : OwnB B w b xs) (hne : b ≠ g) : OwnB B w' b xs :=
  ⟨ho.new, by rw [h.size]; exact ho.lt, fun k x hx => by rw [h.cell (p := ⟨b, 0 + k, none⟩) hne]; exact ho.row k x hx, fun o => by rw [World.frozen?_of_block (w := w) (h.block b hne)]; exact ho.free o⟩
theorem OnlyAt.in32 {g : Nat} {w w' : World} {p : Option Addr} {xs : List (FV .f32)} (h : OnlyAt g w w') (hi : In32 w p xs) (hne : ∀ b off, p = some ⟨b, off, none⟩ → b ≠ g) : In32 w' p xs := fun hx => by
  obtain ⟨b, off, hp, hlt, hr⟩ := hi hx
  exact ⟨b, off, hp, by rw [h.size]; exact hlt, fun k x hk => by rw [h.cell (p := ⟨b, off + k, none⟩) (hne b off hp)]; exact hr k x hk⟩

def markV (n : Int) : FV .f32 := of .f32 (floatOfInt .f32 n)
def marks (n : Int) (len : Nat) : List (FV .f32) := (List.range len).map fun i => markV (n + (i : Nat))
theorem marks_length (n : Int) (len : Nat) : (marks n len).length = len := by unfold marks; simp
theorem marks_get {n : Int} {len k : Nat} (h : k < len) : (marks n len)[k]? = some (markV (n + k)) := by unfold marks; rw [List.getElem?_map, List.getElem?_range h]; rfl

/-- A row of which the first u are marked. -/
def markMix (n : Int) (xs : List (FV .f32)) (u : Nat) : List (FV .f32) := (marks n xs.length).take u ++ xs.drop u
theorem markMix_length {n : Int} {xs : List (FV .f32)} {u : Nat} (h : u ≤ xs.length) : (markMix n xs u).length = xs.length := by
  unfold markMix; rw [List.length_append, List.length_take, List.length_drop, marks_length]; omega
theorem markMix_all (n : Int) (xs : List (FV .f32)) : markMix n xs xs.length = marks n xs.length := by
  unfold markMix
  have h : (marks n xs.length).take xs.length = marks n xs.length := by rw [List.take_of_length_le (by rw [marks_length]; exact Nat.le_refl _)]
  rw [List.drop_length, List.append_nil, h]
theorem markMix_get {n : Int} {xs : List (FV .f32)} {u k : Nat} (hk : k < xs.length) : (markMix n xs u)[k]? = if k < u then some (markV (n + k)) else xs[k]? := by
  unfold markMix
  by_cases h : k < u
  · rw [if_pos h, List.getElem?_append_left (by rw [List.length_take, marks_length]; omega), List.getElem?_take, if_pos h, marks_get hk]
  · by_cases hu : u ≤ xs.length
    · have hu : ((marks n xs.length).take u).length = u := by rw [List.length_take, marks_length]; omega
      rw [if_neg h, List.getElem?_append_right (by omega), List.getElem?_drop, hu]
      congr 1; omega
    · omega
theorem markMix_set {n : Int} {xs : List (FV .f32)} {u : Nat} (h : u < xs.length) : (markMix n xs u).set u (markV (n + u)) = markMix n xs (u + 1) := by
  apply List.ext_getElem?
  intro k
  by_cases hk : k < xs.length
  · rw [List.getElem?_set, markMix_get hk, markMix_get hk, markMix_length (by omega)]
    by_cases e : u = k
    · subst e; rw [if_pos rfl, if_pos h, if_pos (by omega)]
    · rw [if_neg e]
      by_cases h1 : k < u
      · rw [if_pos h1, if_pos (by omega)]
      · rw [if_neg h1, if_neg (by omega)]
  · rw [List.getElem?_eq_none (by rw [List.length_set, markMix_length (by omega)]; omega), List.getElem?_eq_none (by rw [markMix_length (by omega)]; omega)]

theorem markV_fl (n : Int) : (markV n).fl (floatOfInt .f32 n) = floatOfInt .f32 n := fl_of (by unfold floatOfInt FloatKind.nearest; exact Ieee.Format.write_lt _ _)
theorem markV_num {n : Int} (h : n.natAbs ≤ 16777216) : (markV n).isNaN = false := by
  have := (ofInt_exact .f32 (n := n) h).1
  cases hn : (markV n).isNaN
  · rfl
  · unfold isNaN at hn
    have h2 : (ofInt .f32 n).isFin = true := this
    unfold isFin at h2
    have e : (ofInt .f32 n).datum = (markV n).datum := rfl
    rw [e] at h2
    cases hd : (markV n).datum <;> rw [hd] at hn h2 <;> simp_all [Ieee.Datum.isNaN, dfin]

theorem markMix_at {n : Int} {B g : Nat} {w : World} {xs : List (FV .f32)} {u : Nat} (h : Own32 B w g (markMix n xs u)) (hu : u < xs.length) : ∃ v, w.cell? ⟨g, u, none⟩ = some v := by
  obtain ⟨j, hj⟩ := h.at (k := u) (by rw [markMix_length (by omega)]; exact hu)
  exact ⟨_, hj⟩

def Marked (n0 : Int) (B g : Nat) (xs : List (FV .f32)) (w : World) (e : Ending) (w' : World) : Prop :=
  ∃ w1 q, e = .returned (.int .i64 (n0 + xs.length)) ∧ w' = w1.drewN q ∧ OnlyAt g w w1 ∧ Own32 B w1 g (marks n0 xs.length)

theorem markF_any (g c B : Nat) (xs : List (FV .f32)) (n0 : Int) (w : World) (m : Nat) (ho : Own32 B w g xs) (hl : xs.length ≤ 1048576) (h0 : 0 ≤ n0) (h1 : n0 ≤ 1048577) :
    Calls Try.prog 37 #[.slice (some ⟨g, 0, none⟩) xs.length c, .int .i64 n0] (w.drewN m) (Marked n0 B g xs w) := by
  have HO := Lib.hid ho
  clear ho
  go_enter Try.func37, Try.ntmps37
  go_wp2_with (fail)
  go_loopw [1, 5] (fun v k wr => ∃ (u q : Nat) (W : World), u ≤ xs.length ∧ k = .int .i64 u ∧ v = .int .i64 (n0 + u) ∧ wr = W.drewN q ∧ Hid (OnlyAt g w W ∧ Own32 B W g (markMix n0 xs u))) (fun _ k _ => xs.length - (intOf k).toNat)
  case atStart => exact ⟨0, m, w, Nat.zero_le _, rfl, by go_num, rfl, OnlyAt.refl _ _, HO.out⟩
  case round =>
    obtain ⟨u, q, W, hu, rfl, rfl, rfl, HW⟩ := hrel
    by_cases hlt : u < xs.length
    · obtain ⟨v3, hcell3⟩ := markMix_at HW.out.2 hlt
      have hfz : W.frozen? ⟨g, u, none⟩ = false := HW.out.2.free u
      have h1' : (u : Int) < (xs.length : Int) := by omega
      go_wp2_with (fail)
      go_roundw
      case rel =>
        refine ⟨u + 1, _, _, by omega, by go_num, by go_num, rfl, HW.out.1.store _, ?_⟩
        have := HW.out.2.set (k := u) (j := floatOfInt .f32 (n0 + u)) (by rw [markMix_length (by omega)]; exact hlt) (markV (n0 + u))
        rw [markMix_set hlt, markV_fl] at this
        exact this
      case measure => simp [intOf]; omega
    · obtain rfl : u = xs.length := by omega
      go_wp2_with (fail)
      go_ret
      exact ⟨W, _, rfl, rfl, HW.out.1, by have := HW.out.2; rw [markMix_all] at this; exact this⟩

theorem markF_none (p : Option Addr) (c : Nat) (n0 : Int) (w : World) (m : Nat) :
    Calls Try.prog 37 #[.slice p 0 c, .int .i64 n0] (w.drewN m) (fun e w' => ∃ q, e = .returned (.int .i64 n0) ∧ w' = w.drewN q) := by
  go_enter Try.func37, Try.ntmps37
  go_wp2_with (fail)
  go_loopw [1, 5] (fun v k wr => ∃ (q : Nat), k = .int .i64 0 ∧ v = .int .i64 n0 ∧ wr = w.drewN q) (fun _ k _ => 0)
  case atStart => exact ⟨m, rfl, rfl, rfl⟩
  case round =>
    obtain ⟨q, rfl, rfl, rfl⟩ := hrel
    go_wp2_with (fail)
    go_ret
    exact ⟨_, rfl, rfl⟩

theorem cmp_mark {n : Int} (h : n.natAbs ≤ 16777216) : (FV.cmp (markV n) (markV n) != some .eq) = false := by rw [cmp_self (markV_num h)]; rfl

theorem heldF_any (g c B : Nat) (len : Nat) (n0 : Int) (w : World) (m : Nat) (ho : Own32 B w g (marks n0 len)) (hl : len ≤ 1048576) (h0 : 0 ≤ n0) (h1 : n0 ≤ 1048577) :
    Calls Try.prog 39 #[.slice (some ⟨g, 0, none⟩) len c, .int .i64 n0] (w.drewN m) (fun e w' => ∃ q, e = .returned (.int .i64 (n0 + len)) ∧ w' = w.drewN q) := by
  have HO := Lib.hid ho
  clear ho
  go_enter Try.func39, Try.ntmps39
  go_wp2_with (fail)
  go_loopw [1, 5] (fun v k wr => ∃ (u q : Nat), u ≤ len ∧ k = .int .i64 u ∧ v = .int .i64 (n0 + u) ∧ wr = w.drewN q) (fun _ k _ => len - (intOf k).toNat)
  case atStart => exact ⟨0, m, Nat.zero_le _, rfl, by go_num, rfl⟩
  case round =>
    obtain ⟨u, q, hu, rfl, rfl, rfl⟩ := hrel
    by_cases hlt : u < len
    · obtain ⟨j, hcell⟩ := HO.out.row u _ (marks_get hlt)
      rw [Nat.zero_add] at hcell
      have hc := cmp_mark (n := n0 + u) (by omega)
      have h1' : (u : Int) < (len : Int) := by omega
      unfold markV at hc hcell
      go_wp2_with (fail)
      go_roundw
      case rel => exact ⟨u + 1, _, by omega, by go_num, by go_num, rfl⟩
      case measure => simp [intOf]; omega
    · obtain rfl : u = len := by omega
      go_wp2_with (fail)
      go_ret
      exact ⟨_, rfl, rfl⟩

theorem heldF_none (p : Option Addr) (c : Nat) (n0 : Int) (w : World) (m : Nat) :
    Calls Try.prog 39 #[.slice p 0 c, .int .i64 n0] (w.drewN m) (fun e w' => ∃ q, e = .returned (.int .i64 n0) ∧ w' = w.drewN q) := by
  go_enter Try.func39, Try.ntmps39
  go_wp2_with (fail)
  go_loopw [1, 5] (fun v k wr => ∃ (q : Nat), k = .int .i64 0 ∧ v = .int .i64 n0 ∧ wr = w.drewN q) (fun _ k _ => 0)
  case atStart => exact ⟨m, rfl, rfl, rfl⟩
  case round =>
    obtain ⟨q, rfl, rfl, rfl⟩ := hrel
    go_wp2_with (fail)
    go_ret
    exact ⟨_, rfl, rfl⟩

/-- Bools marked: what they hold then is of no matter. -/
def MarkedB (n0 : Int) (g len : Nat) (w : World) (e : Ending) (w' : World) : Prop :=
  ∃ w1 q, e = .returned (.int .i64 (n0 + len)) ∧ w' = w1.drewN q ∧ OnlyAt g w w1

theorem OwnB.set {B g k : Nat} {w : World} {O : List Bool} (h : OwnB B w g O) (hk : k < O.length) (y : Bool) : OwnB B (w.setCell ⟨g, k, none⟩ (.bool y)) g (O.set k y) := by
  refine ⟨h.new, ?_, fun i x hx => ?_, fun o => by rw [World.frozen?_setCell]; exact h.free o⟩
  · have := h.lt; simpa [World.setCell] using this
  · have hj0 := h.row k O[k] (List.getElem?_eq_getElem hk)
    rw [Nat.zero_add] at hj0
    rw [Nat.zero_add]
    rw [List.getElem?_set] at hx
    by_cases e : k = i
    · subst e
      rw [if_pos rfl, if_pos hk] at hx
      cases hx
      exact World.cell?_setCell_same (w := w) (a := ⟨g, k, none⟩) (h := hj0) ..
    · rw [if_neg e] at hx
      have hj1 := h.row i x hx
      rw [Nat.zero_add] at hj1
      exact (World.cell?_setCell_other (w := w) (a := ⟨g, k, none⟩) (b := ⟨g, i, none⟩) (h := fun h => e (congrArg Addr.off h)) ..).trans hj1

theorem markB_any (g c B : Nat) (ks : List Bool) (n0 : Int) (w : World) (m : Nat) (ho : OwnB B w g ks) (hl : ks.length ≤ 1048576) (h0 : 0 ≤ n0) (h1 : n0 ≤ 1048577) :
    Calls Try.prog 38 #[.slice (some ⟨g, 0, none⟩) ks.length c, .int .i64 n0] (w.drewN m) (MarkedB n0 g ks.length w) := by
  have HO := Lib.hid ho
  clear ho
  go_enter Try.func38, Try.ntmps38
  go_wp2_with (fail)
  go_loopw [1, 5] (fun v k wr => ∃ (u q : Nat) (W : World) (os : List Bool), u ≤ ks.length ∧ os.length = ks.length ∧ k = .int .i64 u ∧ v = .int .i64 (n0 + u) ∧ wr = W.drewN q ∧ Hid (OnlyAt g w W ∧ OwnB B W g os)) (fun _ k _ => ks.length - (intOf k).toNat)
  case atStart => exact ⟨0, m, w, ks, Nat.zero_le _, rfl, rfl, by go_num, rfl, OnlyAt.refl _ _, HO.out⟩
  case round =>
    obtain ⟨u, q, W, os, hu, hos, rfl, rfl, rfl, HW⟩ := hrel
    have HOS := Lib.hid hos
    by_cases hlt : u < ks.length
    · have hlt2 : u < os.length := by omega
      have hcell3 := HW.out.2.row u os[u] (List.getElem?_eq_getElem hlt2)
      rw [Nat.zero_add] at hcell3
      have hfz : W.frozen? ⟨g, u, none⟩ = false := HW.out.2.free u
      have h1' : (u : Int) < (ks.length : Int) := by omega
      have H2 := Lib.hid hlt2
      generalize os[u] = ob at hcell3
      clear hos hlt2
      go_wp2_with (fail)
      go_roundw
      case rel => exact ⟨u + 1, _, _, os.set u _, by omega, by rw [List.length_set]; exact HOS.out, by go_num, by go_num, rfl, HW.out.1.store _, HW.out.2.set H2.out _⟩
      case measure => simp [intOf]; omega
    · obtain rfl : u = ks.length := by omega
      clear hos
      go_wp2_with (fail)
      go_ret
      exact ⟨W, _, rfl, rfl, HW.out.1⟩

end Go.Proofs.Ytnpgpkbnfibkkaa
