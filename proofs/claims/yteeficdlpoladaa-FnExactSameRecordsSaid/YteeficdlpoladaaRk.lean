/- FnExactSameRecords: for every two rows of records the program's SameRecords returns what the reference's returns, the arguments left as they were. No condition of our own. -/
import Derived.Test.YteeficdlpoladaaRows
import Derived.Test.YteeficdlpoladaaRi
import Derived.Test.YteeficdlpoladaaRj
namespace Go.Proofs.Yteeficdlpoladaa
open Go.ChangeShapes Go.WideShapes Go.ChangeAt Go.RowKit

theorem recType34 : RecType Try.prog 34 :=
  ⟨⟨_, _, _, _, Try.underlying34, rfl, rfl, rfl, rfl, Try.underlying9, Try.underlying2, Try.underlying2, by kernel_rfl, by kernel_rfl, by kernel_rfl, by kernel_rfl, 48, Try.underlying32, Try.underlying48, by kernel_rfl⟩, by kernel_rfl⟩

namespace sameRecords
set_option maxRecDepth 100000 in
theorem lifted (os : Os) (started : os.Started) (H : Type) (enc : TypeId × Value → H) :
    ReturnsInHanded {} Try.checked os 3 .any (Rows.fnExactSameRecordsSpec.pre6 enc Try.prog Try.f3 Rows.fnExactSameRecordsRow.domain false) (Rows.fnExactSameRecordsSpec.post enc Try.prog Try.f3 false true false false) := by
  refine returnsInHanded_of_change (C := Try.checked) own started (by kernel_rfl) Try.func3
    (ChangeSpec.witness6 (enc := enc) (C := Try.checked) false ⟨#[], #[.slice none 0 0, .slice none 0 0], []⟩ 8 (by kernel_rfl) (by kernel_rfl) (by kernel_rfl) (by kernel_rfl)) ?_
  intro W base args ds gs before hval0 hW _ _
  have hval : ∀ (j : Nat) t v, Try.f3.params[j]? = some t → args[j]? = some v → Value.okWide Try.prog W .any base t v := hval0
  have hW' := hW
  obtain ⟨p, q, hA0, hV, rfl, hfz, hnd⟩ := hW
  have hA : DataW.TrodAll enc Try.prog W 0 (fun _ => true) true Try.f3.params.toList args.toList ds p := hA0
  rw [Try.params3] at hA hval
  obtain ⟨v0, v1, d0, d1, q0, q1, rfl, rfl, rfl, h0, h1⟩ := trodAll_two hA
  obtain ⟨rfl, rfl⟩ := trodVars_none hV
  clear hA0 hval0
  simp only [List.append_nil] at hW'
  have hlt : ∀ x ∈ q0 ++ q1, x.block < W.heap.size := fun x hx => by simpa using hW'.lt x hx
  have ha0 : ∀ (W' : World), Below W.heap.size W W' → DataW.Trod enc Try.prog W' 0 (fun b => decide (b < W.heap.size)) true 22 v0 d0 q0 :=
    fun W' hn => Below.trod laidOut (by kernel_rfl) (of_decide_eq_true (by kernel_rfl)) h0 hn (fun x hx => hlt x (List.mem_append_left _ hx))
  have ha1 : ∀ (W' : World), Below W.heap.size W W' → DataW.Trod enc Try.prog W' 0 (fun b => decide (b < W.heap.size)) true 22 v1 d1 q1 :=
    fun W' hn => Below.trod laidOut (by kernel_rfl) (of_decide_eq_true (by kernel_rfl)) h1 hn (fun x hx => hlt x (List.mem_append_right _ hx))
  obtain ⟨p0, c0, rs, rfl, hin, hs⟩ := in_recs Try.underlying22 recType34 (hval 0 22 v0 rfl rfl) h0
  obtain ⟨p1, c1, ss, rfl, hin', hs'⟩ := in_recs Try.underlying22 recType34 (hval 1 22 v1 rfl rfl) h1
  refine (lawSame_any p0 p1 c0 c1 rs ss W 0 hin hin' hs hs').mono fun e W' ⟨W1, n1, he, hw, bel1⟩ => ?_
  have bel : Below W.heap.size W W' := by rw [hw]; exact below_drawn bel1 n1
  subst he
  exact ⟨_, rfl, _, _, _, [], _, [], hW', trodAll_mk1 (shut_bool Try.underlying4 _), trodAll_mk2 (ha0 W' bel) (ha1 W' bel), rfl, bel.frame _, fun h => by cases h⟩

theorem over : Rows.fnExactSameRecordsRow.holds Try.pinned (OpenSpec.ofChange Rows.fnExactSameRecordsSpec) :=
  OpenClaim.holds_of_wide 3 Try.f3 rfl rfl rfl rfl rfl rfl rfl ⟨rfl, rfl, rfl, rfl, rfl⟩ rfl rfl rfl rfl rfl (by kernel_rfl) Try.func3 (by kernel_rfl)
    (of_decide_eq_true (by kernel_rfl)) (by unfold Func.isWrapper; first | (rw [if_pos (by decide +kernel)]; kernel_rfl) | (rw [if_neg (by decide +kernel)]; exact ⟨rfl, rfl⟩))
    (fun os started H enc _ => lifted os started H enc)

/-- THE STATEMENT -/
theorem proved : Rows.FnExactSameRecordsSaid := over
#print axioms proved
end sameRecords
end Go.Proofs.Yteeficdlpoladaa
