/- The walks: a record's bytes, by the reference. -/
import Derived.Test.YteeficdlpoladaaSh
import Derived.Lib.SlBytesConst
namespace Go.Proofs.Yteeficdlpoladaa
open Go.RowKit Go.FV

section
variable {ops : Array Oper} {rest : List Oper} {dst : Option Tmp} {ty : Nat} {pos : String} {after : Array Edge} {a : Act} {Q : Exit → Act → World → Prop}

/-- A string's bytes in new memory. -/
theorem wpl_ofStr {s : Nat} {W : World} {v : ByteArray} (hs : a.tmps.getD s undef = .string v)
    (h : ∀ p c W2, Below W.heap.size W W2 → ReadB W2 p v.data.toList → wpList Try.prog ops Q rest (a.put dst (.slice p v.size c)) W2) :
    wpList Try.prog ops Q (⟨dst, .convert 9 54 (.tmp s), ty, pos, after, none⟩ :: rest) a W := by
  obtain ⟨p, c, w', hr, hb, hrd⟩ := exec_ofStr (a := a) (w := W) (dst := dst) (ty := ty) (pos := pos) (after := after) (g := none) hs
  exact wpList_plain rfl fun _ hK => op_value hr (hK _ _ (h p c w' hb hrd))

theorem wpl_bytes0 {s x B n : Nat} {w W : World} {xs ys : List UInt8} {v : Value} {ad : Option Addr} {c : Nat}
    (hl : xs.length + ys.length ≤ 1048577) (hne : ys ≠ []) (ho : GrowB B w W xs v) (hr : ReadB W ad ys) (hs : a.tmps.getD s undef = v) (hx : a.tmps.getD x undef = .slice ad n c) (hn : n = ys.length)
    (h : ∀ v' W2, GrowB B w W2 (xs ++ ys) v' → wpList Try.prog ops Q rest (a.put dst v') W2) :
    wpList Try.prog ops Q (⟨dst, .call { callee := .builtin .append, args := #[.tmp s, .tmp x], argTypes := #[54, 54] }, ty, pos, after, none⟩ :: rest) a W := by
  subst hn
  exact wpl_bytes (q := 0) hl hne ho hr hs hx h

/-- A literal's bytes appended. -/
theorem wpl_lits {s x c B n : Nat} {w W W1 : World} {v : Value} {xs ys : List UInt8} {cs : Array Value} (hl : xs.length + ys.length ≤ 1048577) (hne : ys ≠ []) (ho : GrowB B w W xs v) (hW1 : W1 = W.alloc (.cells cs 5)) (hcs : cs = (ys.map bv).toArray)
    (hs : a.tmps.getD s undef = v) (hx : a.tmps.getD x undef = .slice (some ⟨W.heap.size, 0, none⟩) n c) (hn : n = ys.length)
    (h : ∀ v' W2, GrowB B w W2 (xs ++ ys) v' → wpList Try.prog ops Q rest (a.put dst v') W2) :
    wpList Try.prog ops Q (⟨dst, .call { callee := .builtin .append, args := #[.tmp s, .tmp x], argTypes := #[54, 54] }, ty, pos, after, none⟩ :: rest) a W1 := by
  subst hW1
  exact wpl_bytes0 hl hne (ho.mono ((Below.refl _ _).alloc (Nat.le_refl _) _)) (new_read W ys cs hcs) hs hx hn h

/-- A byte appended to a full row: a new row. -/
theorem wpl_first {s x q g g2 : Nat} {w W W1 : World} {X : Int} (h0 : 0 ≤ X) (h1 : X < 256) (hb : Below w.heap.size w W) (hr : ReadB W (some ⟨g, 0, none⟩) riv) (hW1 : W1 = W.alloc (.cells #[.int .u8 X] 5))
    (hs : a.tmps.getD s undef = .slice (some ⟨g, 0, none⟩) 4 4) (hx : a.tmps.getD x undef = .slice (some ⟨g2, 0, none⟩) 1 1) (hg2 : g2 = W.heap.size)
    (h : ∀ v' W2, GrowB w.heap.size w W2 (riv ++ [byteOf X]) v' → wpList Try.prog ops Q rest (a.put dst v') W2) :
    wpList Try.prog ops Q (⟨dst, .call { callee := .builtin .append, args := #[.tmp s, .tmp x], argTypes := #[54, 54] }, ty, pos, after, none⟩ :: rest) a (W1.drewN q) := by
  subst hW1
  subst hg2
  obtain ⟨ti, hi, hz, hsz, hby⟩ := info_parts info5
  have hbv : bv (byteOf X) = .int .u8 X := by unfold bv; rw [byteOf_small h0 h1]
  obtain ⟨g', o', hgo, hg, hrow⟩ := hr (by decide)
  cases hgo
  have hcells : ∀ j v, (riv.map bv)[j]? = some v → ((W.alloc (.cells #[.int .u8 X] 5)).drewN q).cell? ((⟨g, 0, none⟩ : Addr).add j) = some v := fun j v hv => by
    rw [List.getElem?_map] at hv
    cases hy : riv[j]? with
    | none => rw [hy] at hv; cases hv
    | some y =>
      rw [hy] at hv; cases hv
      rw [Addr.add_lit]
      show (W.alloc (.cells #[.int .u8 X] 5)).cell? _ = _
      rw [World.cell?_alloc_old _ _ _ (by show g ≠ W.heap.size; omega)]
      exact hrow j y hy
  have hrun := run_append_grow (P := Try.prog) ((W.alloc (.cells #[.int .u8 X] 5)).drewN q) 54 ty 5 ti (.int .u8 0) Try.underlying54 hi hz ⟨g, 0, none⟩ 4 4 (riv.map bv) (by rw [hsz]; rfl) hcells ⟨W.heap.size, 0, none⟩ 1 1 [.int .u8 X] (by rw [hsz]; rfl)
    (fun j v hv => by
      match j, hv with
      | 0, hv => cases hv; exact cell_new1 W _ 5) (by omega) (by omega) (by rw [hby]; decide)
  refine Lib.wpList_append_run _ rfl _ _ _ _ rfl _ _ hs hx _ _ hrun (h _ _ ⟨(below_drawn (hb.alloc hb.size _) q).trans ((Below.drew (Below.refl _ _)).alloc ?_ _), ?_, ?_⟩)
  · exact Nat.le_trans hb.size (by simp)
  · refine Nat.le_trans hb.size ?_
    rw [World.size_alloc]
    show W.heap.size ≤ (W.alloc (.cells #[.int .u8 X] 5)).heap.size + 1
    rw [World.size_alloc]; omega
  · have hge := grownCap_ge ((W.alloc (.cells #[.int .u8 X] 5)).drewN q) (4 + 1) 4 5
    have hcm := grownCap_le_maxLen ((W.alloc (.cells #[.int .u8 X] 5)).drewN q) (4 + 1) 4 5 (by decide)
    refine ⟨rfl, .inr ⟨_, _, _, rfl, Nat.le_trans hb.size (by simp), heap_alloc_new _ _, hge, hcm, ?_, ?_⟩⟩
    · simp only [Array.size_append, size_zeroCells, List.size_toArray]
      have : (Value.int IntKind.u8 0).cells.size = 1 := rfl
      have h4 : (riv.map bv).length = 4 := rfl
      rw [this, h4]
      simp only [List.length_singleton]
      omega
    · rw [List.map_append, List.map_singleton, hbv]
      simp [riv]
end

theorem le4 {n : Int} (h0 : 0 ≤ n) (h1 : n ≤ 4294967295) : (#[.int .u8 (n % 256), .int .u8 (n / 256 % 256), .int .u8 (n / 65536 % 256), .int .u8 (n / 16777216)] : Array Value) = ((leB 4 n).map bv).toArray := by
  have e1 : n / 256 / 256 = n / 65536 := by omega
  have e2 : n / 65536 / 256 = n / 16777216 := by omega
  have e3 : n / 16777216 % 256 = n / 16777216 := by omega
  simp only [leB, List.map_cons, List.map_nil, bv, byteOf_nat, e1, e2, e3]
theorem le2 {n : Int} (h0 : 0 ≤ n) (h1 : n ≤ 65535) : (#[.int .u8 (n % 256), .int .u8 (n / 256)] : Array Value) = ((leB 2 n).map bv).toArray := by
  have e3 : n / 256 % 256 = n / 256 := by omega
  simp only [leB, List.map_cons, List.map_nil, bv, byteOf_nat, e3]
end Go.Proofs.Yteeficdlpoladaa
