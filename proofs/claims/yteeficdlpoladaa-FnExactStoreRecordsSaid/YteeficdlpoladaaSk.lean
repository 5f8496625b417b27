/- The region of open order in the reference's record: two bytes appended. -/
import Derived.Test.YteeficdlpoladaaSi
namespace Go.Proofs.Yteeficdlpoladaa
open Go.RowKit Go.FV

section
variable {a : Act} {w : World} {dst : Option Tmp} {ty : Nat} {pos : String} {after : Array Edge} {g : Option (Nat × Bool)}
theorem exec_nil {s : Nat} {p : Addr} (hs : a.tmps.getD s undef = .pointer (some p)) :
    (execOp a.eval ⟨dst, .nilCheck (.tmp s), ty, pos, after, g⟩).run Try.prog w = .ok (.value (.pointer (some p))) w := by
  have h1 : a.eval (.tmp s) = .pointer (some p) := by rw [eval_tmp, hs]
  simp only [execOp, h1]
  rfl
theorem exec_rem {s : Nat} {n : Int} (h0 : 0 ≤ n) (hs : a.tmps.getD s undef = .int .i64 n) :
    (execOp a.eval ⟨dst, .binOp .rem 2 (.tmp s) (.const (.int .i64 256)) 2, ty, pos, after, g⟩).run Try.prog w = .ok (.value (.int .i64 (n % 256))) w := by
  have h2 : Int.tmod n 256 = n % 256 := Int.tmod_eq_emod_of_nonneg h0
  refine exec_binOp hs rfl rfl ?_
  simp [go_sem]
  exact h2
theorem exec_quo {s : Nat} {n : Int} (h0 : 0 ≤ n) (h1 : n ≤ 65535) (hs : a.tmps.getD s undef = .int .i64 n) :
    (execOp a.eval ⟨dst, .binOp .quo 2 (.tmp s) (.const (.int .i64 256)) 2, ty, pos, after, g⟩).run Try.prog w = .ok (.value (.int .i64 (n / 256))) w := by
  have h2 : Int.tdiv n 256 = n / 256 := Int.tdiv_eq_ediv_of_nonneg h0
  have h3 : IntKind.i64.wrap (n / 256) = n / 256 := by rw [IntKind.wrap_i64]; omega
  refine exec_binOp hs rfl rfl ?_
  simp [go_sem, h2]
  exact h3
theorem exec_byte {s : Nat} {n : Int} (h0 : 0 ≤ n) (h1 : n < 256) (hs : a.tmps.getD s undef = .int .i64 n) :
    (execOp a.eval ⟨dst, .convert 2 5 (.tmp s), ty, pos, after, g⟩).run Try.prog w = .ok (.value (.int .u8 n)) w := by
  have h0' : execOp a.eval ⟨dst, .convert 2 5 (.tmp s), ty, pos, after, g⟩ = (do let v ← convert 2 5 (a.eval (.tmp s)); pure (Next.value v)) := rfl
  rw [h0', eval_tmp, hs]
  have : IntKind.u8.wrap n = n := by rw [IntKind.wrap_u8]; omega
  simp [go_sem, this]
theorem exec_lit2 {s t : Nat} {n k : Int} (hs : a.tmps.getD s undef = .int .u8 n) (ht : a.tmps.getD t undef = .int .u8 k) :
    (execOp a.eval ⟨dst, .buildSlice 54 2 #[(0, .tmp s), (1, .tmp t)], ty, pos, after, g⟩).run Try.prog w = .ok (.value (.slice (some ⟨w.heap.size, 0, none⟩) 2 2)) (w.alloc (.cells #[.int .u8 n, .int .u8 k] 5)) := by
  have h0 : execOp a.eval ⟨dst, .buildSlice 54 2 #[(0, .tmp s), (1, .tmp t)], ty, pos, after, g⟩ = (do let v ← Instr.buildSlice 54 2 (#[(0, .tmp s), (1, .tmp t)].map fun (i, x) => (i, a.eval x)); pure (Next.value v)) := rfl
  rw [h0]
  rw [Array.getD_eq_getD_getElem?] at hs ht
  simp [Act.eval, hs, ht, go_sem]
end

/-- The world while two bytes are appended: ahead of their slice; with it; with the row grown. -/
def StB (B : Nat) (w W : World) (zs : List UInt8) (X Y : Int) (l13 l14 l15 : Bool) (v59 v3 : Value) (w' : World) : Prop :=
  if l15 = true then GrowB B w w' zs v3
  else if l14 = true then GrowB B w w' zs v59
  else if l13 = true then ∃ n, w' = (W.alloc (.cells #[.int .u8 X, .int .u8 Y] 5)).drewN n
  else ∃ n, w' = W.drewN n

theorem StB.below {B : Nat} {w W : World} {xs zs : List UInt8} {X Y : Int} {l13 l14 l15 : Bool} {v59 v3 v : Value} {w' : World} (h : StB B w W zs X Y l13 l14 l15 v59 v3 w') (ho : GrowB B w W xs v) : Below B w w' := by
  unfold StB at h
  split at h
  · exact h.below
  · split at h
    · exact h.below
    · split at h
      · obtain ⟨n, rfl⟩ := h
        exact below_drawn (ho.below.alloc ho.base _) n
      · obtain ⟨n, rfl⟩ := h
        exact below_drawn ho.below n

/-- What an operation ahead of the last three leaves. -/
theorem StB.step {B : Nat} {w W : World} {zs : List UInt8} {X Y : Int} {listed : Array Bool} {a : Act} {w' : World} {i : Nat} {v : Value} (h : StB B w W zs X Y (listed.getD 13 false) (listed.getD 14 false) (listed.getD 15 false) (a.tmps.getD 59 undef) (a.tmps.getD 3 undef) w') (hi : i < 13) :
    StB B w W zs X Y ((listed.setIfInBounds i true).getD 13 false) ((listed.setIfInBounds i true).getD 14 false) ((listed.setIfInBounds i true).getD 15 false) ((a.put (some (45 + i)) v).tmps.getD 59 undef) ((a.put (some (45 + i)) v).tmps.getD 3 undef) w' := by
  rw [listed_ne (by omega), listed_ne (by omega), listed_ne (by omega), put_tmps, put_tmps, if_neg (by omega), if_neg (by omega)]
  exact h
end Go.Proofs.Yteeficdlpoladaa
