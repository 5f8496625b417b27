/- FnExactStoreRecords: for every row of records the program's StoreRecords returns what the reference's returns, the argument left as it was. No condition of our own. -/
import Derived.Test.YteeficdlpoladaaRows
import Derived.Test.YteeficdlpoladaaSn
import Derived.Test.YteeficdlpoladaaRj
namespace Go.Proofs.Yteeficdlpoladaa
open Go.ChangeShapes Go.WideShapes Go.ChangeAt Go.RowKit

theorem recTypeB : RecType Try.prog 34 :=
  ⟨⟨_, _, _, _, Try.underlying34, rfl, rfl, rfl, rfl, Try.underlying9, Try.underlying2, Try.underlying2, by kernel_rfl, by kernel_rfl, by kernel_rfl, by kernel_rfl, 48, Try.underlying32, Try.underlying48, by kernel_rfl⟩, by kernel_rfl⟩

namespace storeRecords
set_option maxRecDepth 100000 in
theorem lifted (os : Os) (started : os.Started) (H : Type) (enc : TypeId × Value → H) :
    ReturnsInHanded {} Try.checked os 4 .any (Rows.fnExactStoreRecordsSpec.pre6 enc Try.prog Try.f4 Rows.fnExactStoreRecordsRow.domain false) (Rows.fnExactStoreRecordsSpec.post enc Try.prog Try.f4 false true false false) := by
  refine returnsInHanded_of_change (C := Try.checked) own started (by kernel_rfl) Try.func4
    (ChangeSpec.witness6 (enc := enc) (C := Try.checked) false ⟨#[], #[.slice none 0 0], []⟩ 8 (by kernel_rfl) (by kernel_rfl) (by kernel_rfl) (by kernel_rfl)) ?_
  intro W base args ds gs before hval0 hW _ _
  have hval : ∀ (j : Nat) t v, Try.f4.params[j]? = some t → args[j]? = some v → Value.okWide Try.prog W .any base t v := hval0
  have hW' := hW
  obtain ⟨p, q, hA0, hV, rfl, hfz, hnd⟩ := hW
  have hA : DataW.TrodAll enc Try.prog W 0 (fun _ => true) true Try.f4.params.toList args.toList ds p := hA0
  rw [Try.params4] at hA hval
  obtain ⟨v0, d0, rfl, rfl, h0⟩ := trodAll_one hA
  obtain ⟨rfl, rfl⟩ := trodVars_none hV
  clear hA0 hval0
  simp only [List.append_nil] at hW'
  have hlt : ∀ x ∈ p, x.block < W.heap.size := fun x hx => by simpa using hW'.lt x hx
  have hargs : ∀ (W' : World), Below W.heap.size W W' → DataW.Trod enc Try.prog W' 0 (fun b => decide (b < W.heap.size)) true 22 v0 d0 p :=
    fun W' hn => Below.trod laidOut (by kernel_rfl) (of_decide_eq_true (by kernel_rfl)) h0 hn hlt
  obtain ⟨p0, c0, rs, rfl, hin, hs⟩ := in_recs Try.underlying22 recTypeB (hval 0 22 v0 rfl rfl) h0
  refine (lawStore_any p0 c0 rs W 0 hin hs).mono fun e W' ⟨W1, n1, he, hw, bel1⟩ => ?_
  have bel : Below W.heap.size W W' := by rw [hw]; exact below_drawn bel1 n1
  subst he
  exact ⟨_, rfl, _, _, _, [], _, [], hW', trodAll_mk1 (shut_bool Try.underlying4 _), trodAll_mk1 (hargs W' bel), rfl, bel.frame _, fun h => by cases h⟩

theorem over : Rows.fnExactStoreRecordsRow.holds Try.pinned (OpenSpec.ofChange Rows.fnExactStoreRecordsSpec) :=
  OpenClaim.holds_of_wide 4 Try.f4 rfl rfl rfl rfl rfl rfl rfl ⟨rfl, rfl, rfl, rfl, rfl⟩ rfl rfl rfl rfl rfl (by kernel_rfl) Try.func4 (by kernel_rfl)
    (of_decide_eq_true (by kernel_rfl)) (by unfold Func.isWrapper; first | (rw [if_pos (by decide +kernel)]; kernel_rfl) | (rw [if_neg (by decide +kernel)]; exact ⟨rfl, rfl⟩))
    (fun os started H enc _ => lifted os started H enc)

/-- THE STATEMENT -/
theorem proved : Rows.FnExactStoreRecordsSaid := over
#print axioms proved
end storeRecords
end Go.Proofs.Yteeficdlpoladaa
