/- FnExactFillGaps: for all values and all that is known of them FillGaps returns what the reference returns. -/
import Derived.Test.YtnpgpkbnfibkkaaRows
import Derived.Test.YtnpgpkbnfibkkaaHa
import Derived.Test.YtnpgpkbnfibkkaaGu
namespace Go.Proofs.Ytnpgpkbnfibkkaa.fillGaps
open Go.ChangeShapes Go.WideShapes Go.ChangeAt Go.RowKit

theorem cells4 : Try.prog.cellsOf 4 = 1 := by kernel_rfl

theorem in_bools {P : Program} {t e : TypeId} (ht : P.underlying t = some (.slice e)) (he : P.underlying e = some .bool) (hc1 : P.cellsOf e = 1) {H : Type} {enc : TypeId × Value → H} {W : World} {r : Reach} {b0 base : Nat} {spare : Nat → Bool} {held : Bool} {v : Value} {d : DataW H} {ps : List MemPlace}
    (hval : Value.okWide P W r b0 t v) (h : DataW.Trod enc P W base spare held t v d ps) : ∃ p c xs, v = .slice p (List.length xs) c ∧ InB W p xs := by
  obtain ⟨a, len, cap, rfl⟩ := okWide_slice ht hval
  obtain ⟨fuel, hf⟩ := h
  rcases Deep.open_slice1 ht hc1 hf with ⟨hcs, -⟩ | ⟨a', len', cap', m, n, V, D, Pl, hcs, -, hl, -, hm, -, hx⟩
  · cases hcs
    exact ⟨none, 0, [], rfl, fun h => absurd rfl h⟩
  · cases hcs
    have hlm : len ≤ m := by subst hm; split <;> omega
    have each : ∀ i, i < len → ∃ x : Bool, W.cell? (a'.add i) = some (.bool x) := by
      intro i hi
      obtain ⟨h1, h2⟩ := hx i (by omega)
      obtain ⟨b, hb, -⟩ := DataW.trod_bool he h2
      rw [List.cons.injEq] at hb
      exact ⟨b, by rw [h1, hb.1]⟩
    obtain ⟨f, hf⟩ := Deep.choose_lt each
    refine ⟨some a', cap, (List.range len).map f, by simp, fun hne => ?_⟩
    have h0 : 0 < len := by
      cases len with
      | zero => exact absurd rfl hne
      | succ k => omega
    have hc0 := hf 0 h0
    have hs := World.cell?_spot hc0
    obtain ⟨b, off, sp⟩ := a'
    have hsp : sp = none := by simpa [Addr.add] using hs
    subst hsp
    refine ⟨b, off, rfl, ?_, fun k x hk => ?_⟩
    · have h2 : W.cell? ⟨b, off, none⟩ = some (.bool (f 0)) := hc0
      apply Classical.byContradiction
      intro hn
      have h3 : W.heap[b]? = none := by rw [Array.getElem?_eq_none_iff]; omega
      simp [World.cell?, h3] at h2
    · have hk' : k < len := by
        have := (List.getElem?_eq_some_iff.1 hk).1
        simpa using this
      have hc := hf k hk'
      have hkx : f k = x := by
        rw [List.getElem?_map, List.getElem?_range hk'] at hk
        exact Option.some.inj hk
      rw [hkx] at hc
      rw [← hc]
      congr 1
      unfold Addr.add
      split
      · subst_vars; rfl
      · rfl


set_option maxRecDepth 100000 in
theorem lifted (os : Os) (started : os.Started) (H : Type) (enc : TypeId × Value → H) :
    ReturnsInHanded {} Try.checked os 9 .any (Rows.fnExactFillGapsSpec.pre6 enc Try.prog Try.f9 Rows.fnExactFillGapsRow.domain false) (Rows.fnExactFillGapsSpec.post enc Try.prog Try.f9 false true false false) := by
  refine returnsInHanded_of_change (C := Try.checked) own started (by kernel_rfl) Try.func9
    (ChangeSpec.witness6 (enc := enc) (C := Try.checked) false ⟨#[], #[.slice none 0 0, .slice none 0 0], []⟩ 8 (by kernel_rfl) (by kernel_rfl) (by kernel_rfl) (by kernel_rfl)) ?_
  intro W base args ds gs before hval0 hW _ _
  have hval : ∀ (j : Nat) t v, Try.f9.params[j]? = some t → args[j]? = some v → Value.okWide Try.prog W .any base t v := hval0
  have hW' := hW
  obtain ⟨p, q, hA0, hV, rfl, hfz, hnd⟩ := hW
  have hA : DataW.TrodAll enc Try.prog W 0 (fun _ => true) true Try.f9.params.toList args.toList ds p := hA0
  rw [Try.params9] at hA hval
  obtain ⟨v0, v1, d0, d1, q0, q1, rfl, rfl, rfl, h0, h1⟩ := trodAll_two hA
  obtain ⟨rfl, rfl⟩ := trodVars_none hV
  clear hA0 hval0
  simp only [List.append_nil] at hW'
  have hlt : ∀ x ∈ q0 ++ q1, x.block < W.heap.size := fun x hx => by simpa using hW'.lt x hx
  have ha0 : ∀ (W' : World), Below W.heap.size W W' → DataW.Trod enc Try.prog W' 0 (fun b => decide (b < W.heap.size)) true 33 v0 d0 q0 :=
    fun W' hn => Below.trod laidOut (by kernel_rfl) (of_decide_eq_true (by kernel_rfl)) h0 hn (fun x hx => hlt x (List.mem_append_left _ hx))
  have ha1 : ∀ (W' : World), Below W.heap.size W W' → DataW.Trod enc Try.prog W' 0 (fun b => decide (b < W.heap.size)) true 42 v1 d1 q1 :=
    fun W' hn => Below.trod laidOut (by kernel_rfl) (of_decide_eq_true (by kernel_rfl)) h1 hn (fun x hx => hlt x (List.mem_append_right _ hx))
  obtain ⟨p0, c0, xs, rfl, hin⟩ := in_floats Try.underlying33 Try.underlying22 cells22 (hval 0 33 v0 rfl rfl) h0
  obtain ⟨p1, c1, ks, rfl, hinB⟩ := in_bools Try.underlying42 Try.underlying4 cells4 (hval 1 42 v1 rfl rfl) h1
  refine (lawFill p0 c0 xs p1 c1 ks W hin hinB).mono fun e W' ⟨he, bel⟩ => ?_
  subst he
  exact ⟨_, rfl, _, _, _, [], _, [], hW', trodAll_mk1 (shut_bool Try.underlying4 _), trodAll_mk2 (ha0 W' bel) (ha1 W' bel), rfl, bel.frame _, fun h => by cases h⟩

theorem over : Rows.fnExactFillGapsRow.holds Try.pinned (OpenSpec.ofChange Rows.fnExactFillGapsSpec) :=
  OpenClaim.holds_of_wide 9 Try.f9 rfl rfl rfl rfl rfl rfl rfl ⟨rfl, rfl, rfl, rfl, rfl⟩ rfl rfl rfl rfl rfl (by kernel_rfl) Try.func9 (by kernel_rfl)
    (of_decide_eq_true (by kernel_rfl)) (by unfold Func.isWrapper; first | (rw [if_pos (by decide +kernel)]; kernel_rfl) | (rw [if_neg (by decide +kernel)]; exact ⟨rfl, rfl⟩))
    (fun os started H enc _ => lifted os started H enc)

/-- THE STATEMENT -/
theorem proved : Rows.FnExactFillGapsSaid := over
#print axioms proved
end Go.Proofs.Ytnpgpkbnfibkkaa.fillGaps
