/- The walks: single operations of regions of open order. -/
import Derived.Test.YtnpgpkbnfibkkaaGi
import Derived.Test.YtnpgpkbnfibkkaaFk
namespace Go.Proofs.Ytnpgpkbnfibkkaa
open Go.RowKit Go.FV

theorem exec_sub1 {a : Act} {w : World} {dst : Option Tmp} {s ty : Nat} {pos : String} {after : Array Edge} {g : Option (Nat × Bool)} {n : Nat}
    (hs : a.tmps.getD s undef = .int .i64 n) (h0 : 0 < n) (hn : n ≤ 1048576) :
    (execOp a.eval ⟨dst, .binOp .sub 3 (.tmp s) (.const (.int .i64 1)) 3, ty, pos, after, g⟩).run Try.prog w = .ok (.value (.int .i64 ((n - 1 : Nat) : Int))) w := by
  have h1 : ((n - 1 : Nat) : Int) = (n : Int) - 1 := by omega
  have h2 : IntKind.i64.wrap ((n : Int) - 1) = (n : Int) - 1 := by rw [IntKind.wrap_i64]; omega
  rw [h1]
  refine exec_binOp hs rfl rfl ?_
  simp [go_sem]
  exact h2

section
attribute [local irreducible] Oper.wp
theorem op_arith {k : FloatKind} {m : Nat} {dst : Option Tmp} {op : BinOp} {x y : Operand} {t t' ty : TypeId} {pos : String} {after : Array Edge} {g : Option (Nat × Bool)} {u v : FV k} {i j : Nat} {a : Act} {w : World} {K : Act → World → Prop} {Q : Exit → Act → World → Prop}
    (harith : FV.arith op = true) (hx : a.eval x = .float k (u.fl i)) (hy : a.eval y = .float k (v.fl j))
    (h : ∀ j n, K (a.put dst (.float k (fl (bin op u v) j))) (w.drewN n)) :
    Oper.wp Try.prog ⟨dst, .binOp op t x y t', ty, pos, after, g⟩ a (w.drewN m) K Q := by
  have hop := arith_cases harith
  obtain ⟨j', n, hr⟩ := run_arith (P := Try.prog) op hop t (u.fl i) (v.fl j) (w.drewN m)
  rw [World.drewN_drewN, of_fl, of_fl] at hr
  exact op_value (exec_binOp hx hy (by rcases hop with rfl | rfl | rfl | rfl <;> rfl) hr) (h j' (m + n))
theorem op_call' {P : Program} {o : Oper} {a : Act} {w : World} {K : Act → World → Prop} {Q : Exit → Act → World → Prop} {f : FuncId} {args : Array Value} (hr : (execOp a.eval o).run P w = .ok (.enter f args) w) (hc : Calls P f args w fun e w' => ∃ v, e = .returned v ∧ K (a.put o.dst v) w') : o.wp P a w K Q := by
  unfold Oper.wp; rw [hr]
  exact hc.mono fun e w' ⟨v, he, hk⟩ => by subst he; exact hk
end

theorem exec_call1 {f : Nat} {fn : Func} (hf : Try.prog.funcs[f]? = some fn) (hn : fn.name ≠ "runtime.NumGoroutine") (hb : fn.body.isSome = true) {a : Act} {w : World} {dst : Option Tmp} {s ty : Nat} {pos : String} {after : Array Edge} {g : Option (Nat × Bool)} {u : Value} {ts : Array TypeId}
    (hs : a.tmps.getD s undef = u) :
    (execOp a.eval ⟨dst, .call { callee := .value (.func f), args := #[.tmp s], argTypes := ts }, ty, pos, after, g⟩).run Try.prog w = .ok (.enter f #[u]) w := by
  have h0 : execOp a.eval ⟨dst, .call { callee := .value (.func f), args := #[.tmp s], argTypes := ts }, ty, pos, after, g⟩ = (do let d ← resolve a.eval { callee := .value (.func f), args := #[.tmp s], argTypes := ts } ty; invoke d.target d.args) := rfl
  rw [h0]
  obtain ⟨b, hb⟩ := Option.isSome_iff_exists.1 hb
  simp [resolve, Deferred.ofValue, invoke, Act.eval, hs, callFunc, hf, hn, hb, go_sem]

end Go.Proofs.Ytnpgpkbnfibkkaa
