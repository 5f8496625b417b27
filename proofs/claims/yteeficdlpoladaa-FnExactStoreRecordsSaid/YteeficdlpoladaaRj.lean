/- Rows of records as arguments. -/
import Derived.ProofKit
import Derived.OpenShut
import Derived.ChangeOld
import Derived.Below
import Derived.Deep.Slices
import Derived.Test.YteeficdlpoladaaRc
namespace Go.Proofs.Yteeficdlpoladaa
open Go.ChangeShapes Go.WideShapes Go.ChangeAt Go.RowKit

theorem own : ownKnob Try.prog.godebug = none := by kernel_rfl
theorem laidOut : laidOutB Try.prog = true := by kernel_rfl

section
variable {H : Type} {enc : TypeId × Value → H} {P : Program} {w : World} {base : Nat} {spare : Nat → Bool} {held : Bool}

theorem trod_float {fuel : Nat} {t : TypeId} {k : FloatKind} {cs : List Value} {x : DataW H × List MemPlace}
    (ht : P.underlying t = some (.float k)) (h : DataW.trod enc P w base spare held fuel t cs = some x) : ∃ b, cs = [.float k b] ∧ x = (.lit (.float k b), []) ∧ (Lit.float k b).wf = true := by
  cases fuel with
  | zero => simp [DataW.trod] at h
  | succ n =>
    unfold DataW.trod at h
    rw [ht] at h
    split at h <;> simp_all

/-- A slice of floats that can be read. -/
theorem trod_floats {t e : TypeId} (ht : P.underlying t = some (.slice e)) (he : P.underlying e = some (.float .f32)) (hc1 : P.cellsOf e = 1) {fuel : Nat} {cs : List Value} {x : DataW H × List MemPlace}
    (h : DataW.trod enc P w base spare held fuel t cs = some x) : ∃ p c xs, cs = [.slice p (List.length xs) c] ∧ In32 w p xs ∧ (List.length xs) ≤ maxLen := by
  rcases Deep.open_slice1 ht hc1 h with ⟨hcs, -⟩ | ⟨a', len, cap, m, n, V, D, Pl, hcs, -, hl, hcap, hm, -, hx⟩
  · exact ⟨none, 0, [], hcs, fun h => absurd rfl h, Nat.zero_le _⟩
  · have hlm : len ≤ m := by subst hm; split <;> omega
    have each : ∀ i, i < len → ∃ x : FV .f32, ∃ j, w.cell? (a'.add i) = some (.float .f32 (x.fl j)) := by
      intro i hi
      obtain ⟨h1, h2⟩ := hx i (by omega)
      obtain ⟨b, hb, -, hw⟩ := trod_float he h2
      obtain ⟨x, j, rfl⟩ := FV.word hw
      rw [List.cons.injEq] at hb
      exact ⟨x, j, by rw [h1, hb.1]⟩
    haveI : Inhabited (FV .f32) := ⟨FV.of .f32 0⟩
    obtain ⟨f, hf⟩ := Deep.choose_lt each
    refine ⟨some a', cap, (List.range len).map f, by rw [hcs]; simp, fun hne => ?_, by simp; omega⟩
    have h0 : 0 < len := by
      cases len with
      | zero => exact absurd rfl hne
      | succ k => omega
    obtain ⟨j0, hc0⟩ := hf 0 h0
    have hs := World.cell?_spot hc0
    obtain ⟨b, off, sp⟩ := a'
    have hsp : sp = none := by simpa [Addr.add] using hs
    subst hsp
    refine ⟨b, off, rfl, ?_, fun k x hk => ?_⟩
    · have h2 : w.cell? ⟨b, off, none⟩ = some (.float .f32 ((f 0).fl j0)) := hc0
      apply Classical.byContradiction
      intro hn
      have h3 : w.heap[b]? = none := by rw [Array.getElem?_eq_none_iff]; omega
      simp [World.cell?, h3] at h2
    · have hk' : k < len := by
        have := (List.getElem?_eq_some_iff.1 hk).1
        simpa using this
      obtain ⟨j, hc⟩ := hf k hk'
      have hkx : f k = x := by
        rw [List.getElem?_map, List.getElem?_range hk'] at hk
        exact Option.some.inj hk
      rw [hkx] at hc
      refine ⟨j, ?_⟩
      rw [← hc]
      congr 1
      unfold Addr.add
      split
      · subst_vars; rfl
      · rfl

theorem block_of_cell {b o : Nat} {v : Value} (h : w.cell? ⟨b, o, none⟩ = some v) : b < w.heap.size := by
  apply Classical.byContradiction
  intro hn
  have h3 : w.heap[b]? = none := by rw [Array.getElem?_eq_none_iff]; omega
  simp [World.cell?, h3] at h

/-- What a struct of a name, two numbers and a slice of floats needs of the program. -/
structure RecType (P : Program) (e : TypeId) : Prop where
  ex : ∃ f0 f1 f2 f3 : Field, P.underlying e = some (.struct #[f0, f1, f2, f3]) ∧ f0.offset = 0 ∧ f1.offset = 1 ∧ f2.offset = 2 ∧ f3.offset = 3 ∧
    P.underlying f0.type = some .string ∧ P.underlying f1.type = some (.int .i64) ∧ P.underlying f2.type = some (.int .i64) ∧
    P.cellsOf f0.type = 1 ∧ P.cellsOf f1.type = 1 ∧ P.cellsOf f2.type = 1 ∧ P.cellsOf f3.type = 1 ∧
    ∃ g, P.underlying f3.type = some (.slice g) ∧ P.underlying g = some (.float .f32) ∧ P.cellsOf g = 1
  cells : P.cellsOf e = 4

/-- A record that can be read at four cells. -/
theorem trod_rec {e : TypeId} (hT : RecType P e) {fuel : Nat} {cs : List Value} {x : DataW H × List MemPlace} (h : DataW.trod enc P w base spare held fuel e cs = some x) :
    ∃ (r : Rec) (p : Option Addr) (c : Nat), cs = [.string r.name, .int .i64 r.start, .int .i64 r.step, .slice p r.vals.length c] ∧ In32 w p r.vals ∧ r.name.size ≤ maxLen ∧ r.vals.length ≤ maxLen := by
  obtain ⟨⟨f0, f1, f2, f3, he, o0, o1, o2, o3, u0, u1, u2, c0, c1, c2, c3, g, u3, ug, cg⟩, hC⟩ := hT
  obtain ⟨xs, n, -, -, hlen, hxl, hf⟩ := DataW.trod_struct he h
  rw [hC] at hlen
  match cs, hlen, xs, hxl with
  | [v0, v1, v2, v3], _, [y0, y1, y2, y3], _ =>
    have g0 := hf 0 f0 rfl
    have g1 := hf 1 f1 rfl
    have g2 := hf 2 f2 rfl
    have g3 := hf 3 f3 rfl
    rw [o0, c0] at g0
    rw [o1, c1] at g1
    rw [o2, c2] at g2
    rw [o3, c3] at g3
    obtain ⟨s, e0, -, hs⟩ := DataW.trod_string u0 (show DataW.trod enc P w base spare held n f0.type [v0] = some y0 from g0)
    obtain ⟨i1, e1, -, -⟩ := DataW.trod_int u1 (show DataW.trod enc P w base spare held n f1.type [v1] = some y1 from g1)
    obtain ⟨i2, e2, -, -⟩ := DataW.trod_int u2 (show DataW.trod enc P w base spare held n f2.type [v2] = some y2 from g2)
    obtain ⟨p, c, fs, e3, hi, hl⟩ := trod_floats u3 ug cg (show DataW.trod enc P w base spare held n f3.type [v3] = some y3 from g3)
    rw [List.cons.injEq] at e0 e1 e2 e3
    exact ⟨⟨s, i1, i2, fs⟩, p, c, by rw [e0.1, e1.1, e2.1, e3.1], hi, hs, hl⟩

/-- A row of records that came in. -/
theorem in_recs {t e : TypeId} (ht : P.underlying t = some (.slice e)) (hT : RecType P e) {r : Reach} {b0 : Nat} {v : Value} {d : DataW H} {ps : List MemPlace}
    (hval : Value.okWide P w r b0 t v) (h : DataW.Trod enc P w base spare held t v d ps) : ∃ p c rs, v = .slice p (List.length rs) c ∧ InR w p rs ∧ Sane rs := by
  obtain ⟨a, len, cap, rfl⟩ := okWide_slice ht hval
  obtain ⟨fuel, hf⟩ := h
  have hC := hT.cells
  rcases Deep.open_slice ht hf with ⟨hcs, -⟩ | ⟨a', len', cap', m, n, D, Pl, hcs, -, hl, hcap, hm, -, hx⟩
  · cases hcs
    exact ⟨none, 0, [], rfl, fun h => absurd rfl h, Nat.zero_le _, fun r hr => by cases hr⟩
  · cases hcs
    have hlm : len ≤ m := by subst hm; split <;> omega
    have each : ∀ i, i < len → ∃ r : Rec, (r.name.size ≤ maxLen ∧ r.vals.length ≤ maxLen) ∧ ∃ p c, In32 w p r.vals ∧ w.cell? (a'.add (i * 4)) = some (.string r.name) ∧ w.cell? ((a'.add (i * 4)).add 1) = some (.int .i64 r.start) ∧ w.cell? ((a'.add (i * 4)).add 2) = some (.int .i64 r.step) ∧ w.cell? ((a'.add (i * 4)).add 3) = some (.slice p r.vals.length c) := by
      intro i hi
      obtain ⟨cs', h1, h2⟩ := hx i (by omega)
      rw [hC] at h1
      obtain ⟨-, hlen, hcell⟩ := World.cells?_some h1
      obtain ⟨r, p, c, rfl, hin, hs, hv⟩ := trod_rec hT h2
      refine ⟨r, ⟨hs, hv⟩, p, c, hin, ?_, hcell 1 (by omega), hcell 2 (by omega), hcell 3 (by omega)⟩
      have := hcell 0 (by omega)
      have hz : (a'.add (i * 4)).add 0 = a'.add (i * 4) := by unfold Addr.add; simp
      rw [hz] at this
      exact this
    haveI : Inhabited Rec := ⟨⟨ByteArray.empty, 0, 0, []⟩⟩
    obtain ⟨f, hf⟩ := Deep.choose_lt each
    refine ⟨some a', cap, (List.range len).map f, by simp, fun hne => ?_, by simp; omega, fun r hr => ?_⟩
    · have h0 : 0 < len := by
        cases len with
        | zero => exact absurd rfl hne
        | succ k => omega
      obtain ⟨-, p0, cc0, -, hc0, -, -, -⟩ := hf 0 h0
      have hs := World.cell?_spot hc0
      obtain ⟨b, off, sp⟩ := a'
      have hsp : sp = none := by simpa [Addr.add] using hs
      subst hsp
      have ad : ∀ k, (⟨b, off, none⟩ : Addr).add k = ⟨b, off + k, none⟩ := fun k => by unfold Addr.add; split <;> simp_all
      rw [ad] at hc0
      refine ⟨b, off, rfl, block_of_cell hc0, fun k r hk => ?_⟩
      have hk' : k < len := by
        have := (List.getElem?_eq_some_iff.1 hk).1
        simpa using this
      obtain ⟨-, p, c, hin, h1, h2, h3, h4⟩ := hf k hk'
      have hkx : f k = r := by
        rw [List.getElem?_map, List.getElem?_range hk'] at hk
        exact Option.some.inj hk
      have ad2 : ∀ i k, ((⟨b, off, none⟩ : Addr).add k).add i = ⟨b, off + k + i, none⟩ := fun i k => by rw [ad]; unfold Addr.add; split <;> simp_all
      rw [hkx] at h1 h2 h3 h4 hin
      rw [ad] at h1
      rw [ad2] at h2 h3 h4
      exact ⟨h1, h2, h3, p, c, h4, hin⟩
    · obtain ⟨k, hk, rfl⟩ := List.mem_map.1 hr
      exact (hf k (List.mem_range.1 hk)).1
end
end Go.Proofs.Yteeficdlpoladaa
