/- Regions of open order whose operations make memory: what each leaves stays true while the others run. -/
import Derived.Test.YteeficdlpoladaaFk
import Derived.Below
import Derived.Orders
namespace Go
open Go.RowKit
section
variable {P : Program} {Q : Exit → Act → World → Prop} {a0 : Act}

theorem wp_region_grow {id : Nat} {w w0 : World} {l : List Oper} (B : Nat) (S : Nat → Value → World → Prop) (hm : P.follows .mixedOrders = true) (hplain : regionPlain l.toArray a0.tmps.size = true) (hB : Below B w0 { w with drawn := w.drawn + 1 })
    (hop : ∀ (i : Nat) (o : Oper) (a : Act) (w1 : World) (listed : Array Bool), l.toArray[i]? = some o → listed.size = l.toArray.size → Below B w0 w1 → listed.getD i false = false → a.tmps.size = a0.tmps.size →
      (∀ t, t ∉ regionDsts l.toArray → a.tmps.getD t undef = a0.tmps.getD t undef) →
      (∀ i o, l.toArray[i]? = some o → listed.getD i false = true → ∀ e ∈ o.after, Region.binds .any e = true → listed.getD e.on false = true) →
      (∀ e ∈ o.after, Region.binds .any e = true → S e.on (a.tmps.getD (dstAt l.toArray e.on) undef) w1) →
      o.wp P a w1 (fun a' w' => ∃ v, a' = a.put o.dst v ∧ Below B w1 w' ∧ S i v w' ∧ ∀ j u, listed.getD j false = true → S j u w1 → S j u w') Q)
    (hend : ∀ (v : Nat → Value) w', (∀ i, i < l.toArray.size → S i (v i) w') → Below B w0 w' → Q .normal (putAll l.toArray v a0) w') : (Code.region id l.toArray true).wp P Q a0 w := by
  obtain ⟨p1, p2, p3, p4⟩ := plain_parts hplain
  refine wp_region_inv3 (fun _ _ => True) (fun listed a w' => Below B w0 w' ∧ ∀ i, i < l.toArray.size → listed.getD i false = true → S i (a.tmps.getD (dstAt l.toArray i) undef) w') hm hplain ⟨hB, fun i hi h => ?_⟩ ?_ ?_
  · simp [Array.getD] at h
  · intro i o a w1 listed ho hsz hD hnot hall hd hsize hoff hlate hclos hdep
    have hi : i < l.toArray.size := (Array.getElem?_eq_some_iff.1 ho).1
    have hon : ∀ e ∈ o.after, Region.binds .any e = true → S e.on (a.tmps.getD (dstAt l.toArray e.on) undef) w1 := fun e he hb => by
      have h1 := hall e he hb
      have h2 : e.on < l.toArray.size := by
        rw [← hsz]
        apply Classical.byContradiction
        intro hn
        simp [Array.getD, hn] at h1
      exact hD.2 e.on h2 h1
    refine Oper.wp_mono ?_ (hop i o a w1 listed ho hsz hD.1 hnot hsize hoff hclos hon)
    rintro a' w' ⟨v, rfl, hb, hs, hmono⟩
    refine ⟨v, trivial, rfl, hD.1.trans hb, fun j hj hl => ?_⟩
    by_cases hij : i = j
    · subst hij
      have hdst : o.dst = some (dstAt l.toArray i) ∧ dstAt l.toArray i < a.tmps.size := by
        obtain ⟨-, h2, h3, -⟩ := p1 i o ho
        exact ⟨h2, by rw [hsize]; exact h3⟩
      rw [hdst.1, put_tmps, if_pos ⟨rfl, hdst.2⟩]
      exact hs
    · have hl' : listed.getD j false = true := by rw [← listed_ne (l := listed) hij]; exact hl
      have hdst : o.dst = some (dstAt l.toArray i) := (p1 i o ho).2.1
      rw [hdst, put_tmps, if_neg (fun h => hij (p2 i j hi hj h.1.symm))]
      exact hmono j _ hl' (hD.2 j hj hl')
  · intro v _ w' listed hall hD
    refine hend v w' (fun i hi => ?_) hD.1
    have h := hD.2 i hi (hall i hi)
    rw [show (putAll l.toArray v a0).tmps.getD (dstAt l.toArray i) undef = v i from ?_] at h
    · exact h
    · unfold putAll
      exact fold_on _ v i _ a0 List.nodup_range (fun k hk e => p2 k i (List.mem_range.1 hk) hi e) (List.mem_range.2 hi) (p1 i _ (Array.getElem?_eq_getElem hi)).2.2.1
end
end Go
