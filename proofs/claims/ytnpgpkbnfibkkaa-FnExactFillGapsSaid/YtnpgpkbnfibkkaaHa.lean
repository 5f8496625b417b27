/- Rows of floats and of bools as arguments. -/
import Derived.ProofKit
import Derived.OpenShut
import Derived.ChangeOld
import Derived.Below
import Derived.Deep.Slices
import Derived.Test.YtnpgpkbnfibkkaaGf
namespace Go.Proofs.Ytnpgpkbnfibkkaa
open Go.ChangeShapes Go.WideShapes Go.ChangeAt Go.RowKit

theorem own : ownKnob Try.prog.godebug = none := by kernel_rfl
theorem laidOut : laidOutB Try.prog = true := by kernel_rfl

theorem trod_float {H : Type} {enc : TypeId × Value → H} {P : Program} {w : World} {base : Nat} {spare : Nat → Bool} {held : Bool} {fuel : Nat} {t : TypeId} {k : FloatKind} {cs : List Value} {x : DataW H × List MemPlace}
    (ht : P.underlying t = some (.float k)) (h : DataW.trod enc P w base spare held fuel t cs = some x) : ∃ b, cs = [.float k b] ∧ x = (.lit (.float k b), []) ∧ (Lit.float k b).wf = true := by
  cases fuel with
  | zero => simp [DataW.trod] at h
  | succ n =>
    unfold DataW.trod at h
    rw [ht] at h
    split at h <;> simp_all

theorem cells22 : Try.prog.cellsOf 22 = 1 := by kernel_rfl

theorem in_floats {P : Program} {t e : TypeId} (ht : P.underlying t = some (.slice e)) (he : P.underlying e = some (.float .f32)) (hc1 : P.cellsOf e = 1) {H : Type} {enc : TypeId × Value → H} {W : World} {r : Reach} {b0 base : Nat} {spare : Nat → Bool} {held : Bool} {v : Value} {d : DataW H} {ps : List MemPlace}
    (hval : Value.okWide P W r b0 t v) (h : DataW.Trod enc P W base spare held t v d ps) : ∃ p c xs, v = .slice p (List.length xs) c ∧ In32 W p xs := by
  obtain ⟨a, len, cap, rfl⟩ := okWide_slice ht hval
  obtain ⟨fuel, hf⟩ := h
  rcases Deep.open_slice1 ht hc1 hf with ⟨hcs, -⟩ | ⟨a', len', cap', m, n, V, D, Pl, hcs, -, hl, -, hm, -, hx⟩
  · cases hcs
    exact ⟨none, 0, [], rfl, fun h => absurd rfl h⟩
  · cases hcs
    have hlm : len ≤ m := by subst hm; split <;> omega
    have each : ∀ i, i < len → ∃ x : FV .f32, ∃ j, W.cell? (a'.add i) = some (.float .f32 (x.fl j)) := by
      intro i hi
      obtain ⟨h1, h2⟩ := hx i (by omega)
      obtain ⟨b, hb, -, hw⟩ := trod_float he h2
      obtain ⟨x, j, rfl⟩ := FV.word hw
      rw [List.cons.injEq] at hb
      exact ⟨x, j, by rw [h1, hb.1]⟩
    haveI : Inhabited (FV .f32) := ⟨FV.of .f32 0⟩
    obtain ⟨f, hf⟩ := Deep.choose_lt each
    refine ⟨some a', cap, (List.range len).map f, by simp, fun hne => ?_⟩
    have h0 : 0 < len := by
      cases len with
      | zero => exact absurd rfl hne
      | succ k => omega
    obtain ⟨j0, hc0⟩ := hf 0 h0
    have hs := World.cell?_spot hc0
    obtain ⟨b, off, sp⟩ := a'
    have hsp : sp = none := by simpa [Addr.add] using hs
    subst hsp
    refine ⟨b, off, rfl, ?_, fun k x hk => ?_⟩
    · have h2 : W.cell? ⟨b, off, none⟩ = some (.float .f32 ((f 0).fl j0)) := hc0
      apply Classical.byContradiction
      intro hn
      have h3 : W.heap[b]? = none := by rw [Array.getElem?_eq_none_iff]; omega
      simp [World.cell?, h3] at h2
    · have hk' : k < len := by
        have := (List.getElem?_eq_some_iff.1 hk).1
        simpa using this
      obtain ⟨j, hc⟩ := hf k hk'
      have hkx : f k = x := by
        rw [List.getElem?_map, List.getElem?_range hk'] at hk
        exact Option.some.inj hk
      rw [hkx] at hc
      refine ⟨j, ?_⟩
      rw [← hc]
      congr 1
      unfold Addr.add
      split
      · subst_vars; rfl
      · rfl

end Go.Proofs.Ytnpgpkbnfibkkaa
