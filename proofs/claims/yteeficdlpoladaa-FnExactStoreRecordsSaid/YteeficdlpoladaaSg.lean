/- The walks: a record's bytes, by the program: the pieces in open order. -/
import Derived.Test.YteeficdlpoladaaSf
import Derived.Test.YteeficdlpoladaaFm
import Derived.Laws.IdiomStrings
namespace Go.Proofs.Yteeficdlpoladaa
open Go.RowKit Go.FV

/-! ### Operations -/
section
variable {a : Act} {w : World} {dst : Option Tmp} {ty : Nat} {pos : String} {after : Array Edge} {g : Option (Nat × Bool)}

theorem exec_field35 {s k b o : Nat} (hk : k < 4) (hs : a.tmps.getD s undef = .pointer (some ⟨b, o, none⟩)) :
    (execOp a.eval ⟨dst, .fieldAddr 35 (.tmp s) k, ty, pos, after, g⟩).run Try.prog w = .ok (.value (.pointer (some ⟨b, o + k, none⟩))) w := by
  have h0 : execOp a.eval ⟨dst, .fieldAddr 35 (.tmp s) k, ty, pos, after, g⟩ = (do let v ← Instr.fieldAt 35 (a.eval (.tmp s)) k; pure (Next.value v)) := rfl
  rw [h0, eval_tmp, hs]
  match k, hk with
  | 0, _ => simp [go_sem]
  | 1, _ => simp [go_sem]
  | 2, _ => simp [go_sem]
  | 3, _ => simp [go_sem]

theorem exec_load9 {s b o : Nat} {v : ByteArray} (hs : a.tmps.getD s undef = .pointer (some ⟨b, o, none⟩)) (hc : w.cell? ⟨b, o, none⟩ = some (.string v)) :
    (execOp a.eval ⟨dst, .load 9 (.tmp s), ty, pos, after, g⟩).run Try.prog w = .ok (.value (.string v)) w := by
  have h0 : execOp a.eval ⟨dst, .load 9 (.tmp s), ty, pos, after, g⟩ = (do let v ← Instr.loadAt 9 (a.eval (.tmp s)); pure (Next.value v)) := rfl
  rw [h0, eval_tmp, hs]
  simp [go_sem, hc]
theorem exec_load2 {s b o : Nat} {v : Int} (hs : a.tmps.getD s undef = .pointer (some ⟨b, o, none⟩)) (hc : w.cell? ⟨b, o, none⟩ = some (.int .i64 v)) :
    (execOp a.eval ⟨dst, .load 2 (.tmp s), ty, pos, after, g⟩).run Try.prog w = .ok (.value (.int .i64 v)) w := by
  have h0 : execOp a.eval ⟨dst, .load 2 (.tmp s), ty, pos, after, g⟩ = (do let v ← Instr.loadAt 2 (a.eval (.tmp s)); pure (Next.value v)) := rfl
  rw [h0, eval_tmp, hs]
  simp [go_sem, hc]
theorem exec_lenS {s : Nat} {v : ByteArray} (hs : a.tmps.getD s undef = .string v) :
    (execOp a.eval ⟨dst, .call { callee := .builtin .len, args := #[.tmp s], argTypes := #[9] }, ty, pos, after, g⟩).run Try.prog w = .ok (.value (.int .i64 v.size)) w := by
  have h0 : execOp a.eval ⟨dst, .call { callee := .builtin .len, args := #[.tmp s], argTypes := #[9] }, ty, pos, after, g⟩ = (do let d ← resolve a.eval { callee := .builtin .len, args := #[.tmp s], argTypes := #[9] } ty; invoke d.target d.args) := rfl
  rw [h0]
  simp [resolve, invoke, Act.eval, hs, go_sem]
theorem exec_lenB {s n c : Nat} {p : Option Addr} (hs : a.tmps.getD s undef = .slice p n c) :
    (execOp a.eval ⟨dst, .call { callee := .builtin .len, args := #[.tmp s], argTypes := #[54] }, ty, pos, after, g⟩).run Try.prog w = .ok (.value (.int .i64 n)) w := by
  have h0 : execOp a.eval ⟨dst, .call { callee := .builtin .len, args := #[.tmp s], argTypes := #[54] }, ty, pos, after, g⟩ = (do let d ← resolve a.eval { callee := .builtin .len, args := #[.tmp s], argTypes := #[54] } ty; invoke d.target d.args) := rfl
  rw [h0]
  simp [resolve, invoke, Act.eval, hs, go_sem]
theorem exec_toByte {s : Nat} {n : Int} (h0 : 0 ≤ n) (h1 : n < 256) (hs : a.tmps.getD s undef = .int .i64 n) :
    (execOp a.eval ⟨dst, .convert 3 5 (.tmp s), ty, pos, after, g⟩).run Try.prog w = .ok (.value (.int .u8 n)) w := by
  have h0' : execOp a.eval ⟨dst, .convert 3 5 (.tmp s), ty, pos, after, g⟩ = (do let v ← convert 3 5 (a.eval (.tmp s)); pure (Next.value v)) := rfl
  rw [h0', eval_tmp, hs]
  have : IntKind.u8.wrap n = n := by rw [IntKind.wrap_u8]; omega
  simp [go_sem, this]
theorem exec_lit4 :
    (execOp a.eval ⟨dst, .buildSlice 54 4 #[(0, .const (.int .u8 82)), (1, .const (.int .u8 73)), (2, .const (.int .u8 86)), (3, .const (.int .u8 49))], ty, pos, after, g⟩).run Try.prog w =
      .ok (.value (.slice (some ⟨w.heap.size, 0, none⟩) 4 4)) (w.alloc (.cells #[.int .u8 82, .int .u8 73, .int .u8 86, .int .u8 49] 5)) := by
  have h0 : execOp a.eval ⟨dst, .buildSlice 54 4 #[(0, .const (.int .u8 82)), (1, .const (.int .u8 73)), (2, .const (.int .u8 86)), (3, .const (.int .u8 49))], ty, pos, after, g⟩ = (do let v ← Instr.buildSlice 54 4 (#[(0, .const (.int .u8 82)), (1, .const (.int .u8 73)), (2, .const (.int .u8 86)), (3, .const (.int .u8 49))].map fun (i, x) => (i, a.eval x)); pure (Next.value v)) := rfl
  rw [h0]
  simp [Act.eval, go_sem]
theorem exec_lit1 {s : Nat} {n : Int} (hs : a.tmps.getD s undef = .int .u8 n) :
    (execOp a.eval ⟨dst, .buildSlice 54 1 #[(0, .tmp s)], ty, pos, after, g⟩).run Try.prog w = .ok (.value (.slice (some ⟨w.heap.size, 0, none⟩) 1 1)) (w.alloc (.cells #[.int .u8 n] 5)) := by
  have h0 : execOp a.eval ⟨dst, .buildSlice 54 1 #[(0, .tmp s)], ty, pos, after, g⟩ = (do let v ← Instr.buildSlice 54 1 (#[(0, .tmp s)].map fun (i, x) => (i, a.eval x)); pure (Next.value v)) := rfl
  rw [h0]
  have hs' : a.tmps[s]?.getD undef = .int .u8 n := by rw [← Array.getD_eq_getD_getElem?]; exact hs
  simp [Act.eval, hs', go_sem]
theorem exec_call2 {f : Nat} {fn : Func} (hf : Try.prog.funcs[f]? = some fn) (hn : fn.name ≠ "runtime.NumGoroutine") (hb : fn.body.isSome = true) {s : Nat} {k : Value} {ts : Array TypeId} {u : Value} (hs : a.tmps.getD s undef = u) :
    (execOp a.eval ⟨dst, .call { callee := .value (.func f), args := #[.tmp s, .const k], argTypes := ts }, ty, pos, after, g⟩).run Try.prog w = .ok (.enter f #[u, k]) w := by
  have h0 : execOp a.eval ⟨dst, .call { callee := .value (.func f), args := #[.tmp s, .const k], argTypes := ts }, ty, pos, after, g⟩ = (do let d ← resolve a.eval { callee := .value (.func f), args := #[.tmp s, .const k], argTypes := ts } ty; invoke d.target d.args) := rfl
  rw [h0]
  obtain ⟨b, hb⟩ := Option.isSome_iff_exists.1 hb
  simp [resolve, Deferred.ofValue, invoke, Act.eval, hs, callFunc, hf, hn, hb, go_sem]
theorem exec_call1 {f : Nat} {fn : Func} (hf : Try.prog.funcs[f]? = some fn) (hn : fn.name ≠ "runtime.NumGoroutine") (hb : fn.body.isSome = true) {s : Nat} {ts : Array TypeId} {u : Value} (hs : a.tmps.getD s undef = u) :
    (execOp a.eval ⟨dst, .call { callee := .value (.func f), args := #[.tmp s], argTypes := ts }, ty, pos, after, g⟩).run Try.prog w = .ok (.enter f #[u]) w := by
  have h0 : execOp a.eval ⟨dst, .call { callee := .value (.func f), args := #[.tmp s], argTypes := ts }, ty, pos, after, g⟩ = (do let d ← resolve a.eval { callee := .value (.func f), args := #[.tmp s], argTypes := ts } ty; invoke d.target d.args) := rfl
  rw [h0]
  obtain ⟨b, hb⟩ := Option.isSome_iff_exists.1 hb
  simp [resolve, Deferred.ofValue, invoke, Act.eval, hs, callFunc, hf, hn, hb, go_sem]

theorem op_call' {P : Program} {o : Oper} {a : Act} {w : World} {K : Act → World → Prop} {Q : Exit → Act → World → Prop} {f : FuncId} {args : Array Value} (hr : (execOp a.eval o).run P w = .ok (.enter f args) w) (hc : Calls P f args w fun e w' => ∃ v, e = .returned v ∧ K (a.put o.dst v) w') : o.wp P a w K Q := by
  unfold Oper.wp; rw [hr]
  exact hc.mono fun e w' ⟨v, he, hk⟩ => by subst he; exact hk

theorem exec_lit7 {s0 s1 s2 s3 s4 s5 s6 : Nat} {p0 p1 p2 p3 p4 p5 p6 : Option Addr} {n0 n1 n2 n3 n4 n5 n6 c0 c1 c2 c3 c4 c5 c6 : Nat}
    (h0 : a.tmps.getD s0 undef = .slice p0 n0 c0) (h1 : a.tmps.getD s1 undef = .slice p1 n1 c1) (h2 : a.tmps.getD s2 undef = .slice p2 n2 c2) (h3 : a.tmps.getD s3 undef = .slice p3 n3 c3) (h4 : a.tmps.getD s4 undef = .slice p4 n4 c4) (h5 : a.tmps.getD s5 undef = .slice p5 n5 c5) (h6 : a.tmps.getD s6 undef = .slice p6 n6 c6) :
    (execOp a.eval ⟨dst, .buildSlice 67 7 #[(0, .tmp s0), (1, .tmp s1), (2, .tmp s2), (3, .tmp s3), (4, .tmp s4), (5, .tmp s5), (6, .tmp s6)], ty, pos, after, g⟩).run Try.prog w =
      .ok (.value (.slice (some ⟨w.heap.size, 0, none⟩) 7 7)) (w.alloc (.cells #[.slice p0 n0 c0, .slice p1 n1 c1, .slice p2 n2 c2, .slice p3 n3 c3, .slice p4 n4 c4, .slice p5 n5 c5, .slice p6 n6 c6] 54)) := by
  have e : execOp a.eval ⟨dst, .buildSlice 67 7 #[(0, .tmp s0), (1, .tmp s1), (2, .tmp s2), (3, .tmp s3), (4, .tmp s4), (5, .tmp s5), (6, .tmp s6)], ty, pos, after, g⟩ = (do let v ← Instr.buildSlice 67 7 (#[(0, .tmp s0), (1, .tmp s1), (2, .tmp s2), (3, .tmp s3), (4, .tmp s4), (5, .tmp s5), (6, .tmp s6)].map fun (i, x) => (i, a.eval x)); pure (Next.value v)) := rfl
  rw [e]
  rw [Array.getD_eq_getD_getElem?] at h0 h1 h2 h3 h4 h5 h6
  simp [Act.eval, h0, h1, h2, h3, h4, h5, h6, go_sem]

theorem run_mark (w : World) (b n c : Nat) {B : Nat} (hB : B ≤ b) : ∃ w', (convert 54 54 (.slice (some ⟨b, 0, none⟩) n c)).run Try.prog w = .ok (.slice (some ⟨b, 0, none⟩) n c) w' ∧ Below B w w' ∧ w'.heap.size = w.heap.size ∧ ∀ p, w'.cell? p = w.cell? p := by
  have hfz : ∀ k : Nat, Below B w (w.freeze ⟨b, k, none⟩ 1) ∧ (w.freeze ⟨b, k, none⟩ 1).heap.size = w.heap.size ∧ ∀ p, (w.freeze ⟨b, k, none⟩ 1).cell? p = w.cell? p := by
    intro k
    unfold World.freeze
    rw [if_neg (by decide)]
    refine ⟨⟨rfl, rfl, rfl, by simp, fun j hj => ?_⟩, by simp, fun p => ?_⟩
    · show (w.heap.modify b _)[j]? = _
      rw [Array.getElem?_modify, if_neg (by omega)]
    · unfold World.cell?
      show (match (w.heap.modify b _)[p.block]? with | some (.cells c _ _) => if p.spot.isSome then none else c[p.off]? | _ => none) = _
      rw [Array.getElem?_modify]
      by_cases e : b = p.block
      · rw [if_pos e]
        cases h : w.heap[p.block]? with
        | none => rfl
        | some o => cases o <;> rfl
      · rw [if_neg e]; rfl
  cases hsh : w.shape? b with
  | none => exact ⟨w, by simp [convert, run_underlying Try.underlying54, run_underlying Try.underlying5, markStringish, hsh], Below.refl _ _, rfl, fun _ => rfl⟩
  | some x =>
    obtain ⟨t, k⟩ := x
    exact ⟨_, by simp [convert, run_underlying Try.underlying54, run_underlying Try.underlying5, markStringish, hsh], hfz k⟩

theorem exec_mark {s b n c B : Nat} (hB : B ≤ b) (hs : a.tmps.getD s undef = .slice (some ⟨b, 0, none⟩) n c) :
    ∃ w', (execOp a.eval ⟨dst, .convert 54 54 (.tmp s), ty, pos, after, g⟩).run Try.prog w = .ok (.value (.slice (some ⟨b, 0, none⟩) n c)) w' ∧ Below B w w' ∧ w'.heap.size = w.heap.size ∧ ∀ p, w'.cell? p = w.cell? p := by
  obtain ⟨w', h1, h2⟩ := run_mark w b n c hB
  refine ⟨w', ?_, h2⟩
  have h0' : execOp a.eval ⟨dst, .convert 54 54 (.tmp s), ty, pos, after, g⟩ = (do let v ← convert 54 54 (a.eval (.tmp s)); pure (Next.value v)) := rfl
  rw [h0', eval_tmp, hs]
  simp [h1]

theorem bytesRow_read (W : World) (s : ByteArray) (c : Nat) (fr : Nat × Nat) : ReadB (W.alloc (.cells (bytesRow s c) 5 fr)) (some ⟨W.heap.size, 0, none⟩) s.data.toList := fun _ =>
  ⟨W.heap.size, 0, rfl, by simp, fun k x hk => by
    obtain ⟨hk1, hx⟩ := List.getElem?_eq_some_iff.1 hk
    rw [Nat.zero_add, World.cell?_alloc_mark, bytesRow_at s c k (by simpa using hk1), ← hx]; rfl⟩

theorem exec_ofStr {s : Nat} {v : ByteArray} (hs : a.tmps.getD s undef = .string v) :
    ∃ p c w', (execOp a.eval ⟨dst, .convert 9 54 (.tmp s), ty, pos, after, g⟩).run Try.prog w = .ok (.value (.slice p v.size c)) w' ∧ Below w.heap.size w w' ∧ ReadB w' p v.data.toList := by
  obtain ⟨p, c, w', h1, h2, h3⟩ : ∃ p c w', (convert 9 54 (.string v)).run Try.prog w = .ok (.slice p v.size c) w' ∧ Below w.heap.size w w' ∧ ReadB w' p v.data.toList :=
    ⟨_, _, _, run_bytes_of_string (P := Try.prog) w 9 54 5 v Try.underlying9 Try.underlying54 Try.underlying5, (Below.drew (Below.refl _ _)).alloc (Nat.le_refl _) _, bytesRow_read w.drew v _ _⟩
  refine ⟨p, c, w', ?_, h2, h3⟩
  have h0' : execOp a.eval ⟨dst, .convert 9 54 (.tmp s), ty, pos, after, g⟩ = (do let v ← convert 9 54 (a.eval (.tmp s)); pure (Next.value v)) := rfl
  rw [h0', eval_tmp, hs]
  simp [h1]
end
end Go.Proofs.Yteeficdlpoladaa
