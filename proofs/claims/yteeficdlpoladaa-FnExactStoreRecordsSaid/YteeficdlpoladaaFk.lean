/- A region whose order is open: what is known of the world may depend on which operations have run. -/
import Derived.Test.YteeficdlpoladaaFi
namespace Go
section
variable {P : Program} {ops : Array Oper} {Q : Exit → Act → World → Prop} {S : Nat → Value → Prop} {a0 : Act}

/-- What is known of the frame while the region runs. -/
structure RInv2 (ops : Array Oper) (S : Nat → Value → Prop) (a0 : Act) (listed : Array Bool) (a : Act) : Prop where
  defers : a.defers = a0.defers
  size : a.tmps.size = a0.tmps.size
  off : ∀ t, (∀ i, i < ops.size → dstAt ops i = t → listed.getD i false = false) → a.tmps.getD t undef = a0.tmps.getD t undef
  on : ∀ i, i < ops.size → listed.getD i false = true → S i (a.tmps.getD (dstAt ops i) undef)
  clos : ∀ i o, ops[i]? = some o → listed.getD i false = true → ∀ e ∈ o.after, Region.binds .any e = true → listed.getD e.on false = true

theorem wpAny_inv2 {D : Array Bool → World → Prop} (hplain : regionPlain ops a0.tmps.size = true)
    (hop : ∀ (i : Nat) (o : Oper) (a : Act) (w : World) (listed : Array Bool), ops[i]? = some o → D listed w → listed.getD i false = false → (∀ e ∈ o.after, Region.binds .any e = true → listed.getD e.on false = true) → a.defers = a0.defers → (∀ t, (∀ i, i < ops.size → dstAt ops i = t → listed.getD i false = false) → a.tmps.getD t undef = a0.tmps.getD t undef) → (∀ i o, ops[i]? = some o → listed.getD i false = true → ∀ e ∈ o.after, Region.binds .any e = true → listed.getD e.on false = true) → (∀ e ∈ o.after, Region.binds .any e = true → S e.on (a.tmps.getD (dstAt ops e.on) undef)) →
      o.wp P a w (fun a' w' => ∃ v, S i v ∧ a' = a.put o.dst v ∧ D (listed.setIfInBounds i true) w') Q)
    (hend : ∀ v : Nat → Value, (∀ i, i < ops.size → S i (v i)) → ∀ w' listed, (∀ i, i < ops.size → listed.getD i false = true) → D listed w' → Q .normal (putAll ops v a0) w') :
    ∀ (fuel : Nat) (listed : Array Bool) (a : Act) (w : World), listed.size = ops.size → listed.toList.count false = fuel → RInv2 ops S a0 listed a → D listed w → wpAny P .any ops Q fuel listed a w := by
  obtain ⟨p1, p2, p3, p4⟩ := plain_parts hplain
  have fin : ∀ (listed : Array Bool) (a : Act) (w : World), listed.size = ops.size → (∀ i, i < ops.size → listed.getD i false = true) → RInv2 ops S a0 listed a → D listed w → Q .normal a w := by
    intro listed a w hs hall hI hC
    have hd : ∀ i, i < ops.size → dstAt ops i < a0.tmps.size := fun i hi => (p1 i _ (Array.getElem?_eq_getElem hi)).2.2.1
    have e : a = putAll ops (fun i => a.tmps.getD (dstAt ops i) undef) a0 := by
      refine act_ext ?_ ?_ ?_
      · rw [putAll, fold_defers]; exact hI.defers
      · rw [putAll, fold_size]; exact hI.size
      · intro t _
        by_cases ht : t ∈ regionDsts ops
        · obtain ⟨i, hi, rfl⟩ := p4 t ht
          rw [putAll, fold_on (dstAt ops) (fun i => a.tmps.getD (dstAt ops i) undef) i _ _ List.nodup_range (fun j hj e => p2 j i (List.mem_range.1 hj) hi e) (List.mem_range.2 hi) (hd i hi)]
        · rw [putAll, fold_off _ _ t _ _ (fun i hi e => ht (by rw [← e]; exact p3 i (List.mem_range.1 hi))), hI.off t (fun i hi e => absurd (by rw [← e]; exact p3 i hi) ht)]
    rw [e]
    exact hend _ (fun i hi => hI.on i hi (hall i hi)) w listed hall hC
  have noready : ∀ (listed : Array Bool), listed.size = ops.size → Region.ready .any ops listed = [] → ∀ i, i < ops.size → listed.getD i false = true := by
    intro listed hs hr i
    induction i using Nat.strongRecOn with
    | _ i ih =>
      intro hi
      cases hl : listed.getD i false
      · exfalso
        have : i ∈ Region.ready .any ops listed := by
          refine mem_ready.2 ⟨?_, _, Array.getElem?_eq_getElem hi, fun e he _ => ?_⟩
          · simpa [Array.getD, show i < listed.size by omega] using hl
          · have hlt := (p1 i _ (Array.getElem?_eq_getElem hi)).2.2.2 e he
            exact ih e.on hlt (by omega)
        rw [hr] at this
        cases this
      · rfl
  intro fuel
  induction fuel with
  | zero =>
    intro listed a w hs hc hI hC
    have hall : ∀ i, i < ops.size → listed.getD i false = true := by
      intro i hi
      cases hl : listed.getD i false
      · exfalso
        have hm : false ∈ listed.toList := by
          have : listed[i]'(by omega) = false := by simpa [Array.getD, show i < listed.size by omega] using hl
          rw [← this]
          exact Array.mem_toList_iff.2 (Array.getElem_mem _)
        have := List.count_pos_iff.2 hm
        omega
      · rfl
    refine ⟨?_, fin listed a w hs hall hI hC⟩
    apply List.eq_nil_iff_forall_not_mem.2
    intro i hi
    obtain ⟨h0, o, ho, -⟩ := mem_ready.1 hi
    have hlt := (Array.getElem?_eq_some_iff.1 ho).1
    have := hall i hlt
    simp [Array.getD, show i < listed.size by omega] at h0 this
    rw [this] at h0; cases h0
  | succ fuel ih =>
    intro listed a w hs hc hI hC
    refine ⟨fun hr => fin listed a w hs (noready listed hs hr) hI hC, fun i hi => ?_⟩
    obtain ⟨h0, o, ho, hall⟩ := mem_ready.1 hi
    have hlt := (Array.getElem?_eq_some_iff.1 ho).1
    obtain ⟨q1, q2, q3, q4⟩ := p1 i o ho
    have h := hop i o a w listed ho hC (by simpa [Array.getD, show i < listed.size by omega] using h0) (fun e he hb => hall e he hb) hI.defers hI.off hI.clos (fun e he hb => hI.on e.on (by have := q4 e he; omega) (hall e he hb))
    unfold wpOp
    rw [ho]
    simp only [Region.wanted, q1, if_true]
    left
    refine Oper.wp_mono (fun a' w' h' => ?_) h
    obtain ⟨v, hv, rfl, hC'⟩ := h'
    have hli : listed[i]'(by omega) = false := by simpa [Array.getD, show i < listed.size by omega] using h0
    refine ih _ _ _ (by simpa using hs) ?_ ⟨?_, ?_, ?_, ?_, ?_⟩ hC'
    · rw [Array.toList_setIfInBounds, List.count_set (by simpa using (by omega : i < listed.size))]
      have : (listed.toList[i]'(by simpa using (by omega : i < listed.size))) = false := by simpa using hli
      rw [this, if_pos (by rfl), if_neg (by decide), hc]
      rfl
    · rw [put_defers]; exact hI.defers
    · rw [put_size]; exact hI.size
    · intro t ht
      have hit : ¬ t = dstAt ops i := by
        intro e
        have := ht i hlt e.symm
        simp [Array.getD, show i < listed.size by omega] at this
      rw [q2, put_tmps, if_neg (fun ⟨e, _⟩ => hit e), hI.off t]
      intro j hj hjt
      have := ht j hj hjt
      have hji : ¬ i = j := fun e => hit (by rw [e]; exact hjt.symm)
      simpa [Array.getD, show j < listed.size by omega, Array.getElem_setIfInBounds, hji] using this
    · intro j hj hlj
      rw [q2, put_tmps]
      by_cases hij : j = i
      · subst hij
        rw [if_pos ⟨rfl, by rw [hI.size]; exact q3⟩]; exact hv
      · rw [if_neg (fun ⟨e, _⟩ => hij (p2 j i hj hlt e))]
        refine hI.on j hj ?_
        have hji : ¬ i = j := fun e => hij e.symm
        simpa [Array.getD, show j < listed.size by omega, Array.getElem_setIfInBounds, hji] using hlj
    · intro j o' hj' hlj e he hb
      have hj := (Array.getElem?_eq_some_iff.1 hj').1
      have key : listed.getD e.on false = true := by
        by_cases hij : j = i
        · subst hij
          rw [ho] at hj'; cases hj'
          exact hall e he hb
        · have hji : ¬ i = j := fun e => hij e.symm
          refine hI.clos j o' hj' ?_ e he hb
          simpa [Array.getD, show j < listed.size by omega, Array.getElem_setIfInBounds, hji] using hlj
      by_cases hei : i = e.on
      · rw [← hei] at key
        rw [Array.getD, dif_pos (by omega)] at key
        exact absurd (hli.symm.trans key) (by simp)
      · have hlt' : e.on < listed.size := by
          apply Classical.byContradiction; intro hn
          rw [Array.getD, dif_neg hn] at key; cases key
        simpa [Array.getD, hlt', Array.getElem_setIfInBounds, hei] using key

/-- THE LAW, where the world's class depends on what has run. -/
theorem wp_region_inv2 {id : Nat} {w : World} {l : List Oper} (S : Nat → Value → Prop) (D : Array Bool → World → Prop) (hm : P.follows .mixedOrders = true) (hplain : regionPlain l.toArray a0.tmps.size = true) (hC : D (Array.replicate l.toArray.size false) { w with drawn := w.drawn + 1 })
    (hop : ∀ (i : Nat) (o : Oper) (a : Act) (w : World) (listed : Array Bool), l.toArray[i]? = some o → D listed w → listed.getD i false = false → (∀ e ∈ o.after, Region.binds .any e = true → listed.getD e.on false = true) → a.defers = a0.defers →
      (∀ t, t ∉ regionDsts l.toArray → a.tmps.getD t undef = a0.tmps.getD t undef) →
      (∀ j, j < l.toArray.size → listed.getD j false = false → a.tmps.getD (dstAt l.toArray j) undef = a0.tmps.getD (dstAt l.toArray j) undef) →
      (∀ i o, l.toArray[i]? = some o → listed.getD i false = true → ∀ e ∈ o.after, Region.binds .any e = true → listed.getD e.on false = true) →
      (∀ e ∈ o.after, Region.binds .any e = true → S e.on (a.tmps.getD (dstAt l.toArray e.on) undef)) →
      o.wp P a w (fun a' w' => ∃ v, S i v ∧ a' = a.put o.dst v ∧ D (listed.setIfInBounds i true) w') Q)
    (hend : ∀ v : Nat → Value, (∀ i, i < l.toArray.size → S i (v i)) → ∀ w' listed, (∀ i, i < l.toArray.size → listed.getD i false = true) → D listed w' → Q .normal (putAll l.toArray v a0) w') : (Code.region id l.toArray true).wp P Q a0 w := by
  obtain ⟨p1, p2, p3, p4⟩ := plain_parts hplain
  refine wp_region_any hm (wpAny_inv2 (D := D) hplain (fun i o a w listed h1 h2 h3 h4 h5 h6 h7 h8 => hop i o a w listed h1 h2 h3 h4 h5 (fun t ht => h6 t fun i hi e => absurd (by rw [← e]; exact p3 i hi) ht) (fun j hj hl => h6 _ fun i hi e => by rw [p2 i j hi hj e]; exact hl) h7 h8) hend _ _ _ _ (by simp) (by simp) ⟨rfl, rfl, fun _ _ => rfl, fun i hi h => ?_, fun i o hi h => ?_⟩ hC)
  · simp [Array.getD] at h
  · simp [Array.getD] at h

theorem wpAny_inv3 {D : Array Bool → Act → World → Prop} (hplain : regionPlain ops a0.tmps.size = true)
    (hop : ∀ (i : Nat) (o : Oper) (a : Act) (w : World) (listed : Array Bool), ops[i]? = some o → listed.size = ops.size → D listed a w → listed.getD i false = false → (∀ e ∈ o.after, Region.binds .any e = true → listed.getD e.on false = true) → a.defers = a0.defers → a.tmps.size = a0.tmps.size → (∀ t, (∀ i, i < ops.size → dstAt ops i = t → listed.getD i false = false) → a.tmps.getD t undef = a0.tmps.getD t undef) → (∀ i o, ops[i]? = some o → listed.getD i false = true → ∀ e ∈ o.after, Region.binds .any e = true → listed.getD e.on false = true) → (∀ e ∈ o.after, Region.binds .any e = true → S e.on (a.tmps.getD (dstAt ops e.on) undef)) →
      o.wp P a w (fun a' w' => ∃ v, S i v ∧ a' = a.put o.dst v ∧ D (listed.setIfInBounds i true) a' w') Q)
    (hend : ∀ v : Nat → Value, (∀ i, i < ops.size → S i (v i)) → ∀ w' listed, (∀ i, i < ops.size → listed.getD i false = true) → D listed (putAll ops v a0) w' → Q .normal (putAll ops v a0) w') :
    ∀ (fuel : Nat) (listed : Array Bool) (a : Act) (w : World), listed.size = ops.size → listed.toList.count false = fuel → RInv2 ops S a0 listed a → D listed a w → wpAny P .any ops Q fuel listed a w := by
  obtain ⟨p1, p2, p3, p4⟩ := plain_parts hplain
  have fin : ∀ (listed : Array Bool) (a : Act) (w : World), listed.size = ops.size → (∀ i, i < ops.size → listed.getD i false = true) → RInv2 ops S a0 listed a → D listed a w → Q .normal a w := by
    intro listed a w hs hall hI hC
    have hd : ∀ i, i < ops.size → dstAt ops i < a0.tmps.size := fun i hi => (p1 i _ (Array.getElem?_eq_getElem hi)).2.2.1
    have e : a = putAll ops (fun i => a.tmps.getD (dstAt ops i) undef) a0 := by
      refine act_ext ?_ ?_ ?_
      · rw [putAll, fold_defers]; exact hI.defers
      · rw [putAll, fold_size]; exact hI.size
      · intro t _
        by_cases ht : t ∈ regionDsts ops
        · obtain ⟨i, hi, rfl⟩ := p4 t ht
          rw [putAll, fold_on (dstAt ops) (fun i => a.tmps.getD (dstAt ops i) undef) i _ _ List.nodup_range (fun j hj e => p2 j i (List.mem_range.1 hj) hi e) (List.mem_range.2 hi) (hd i hi)]
        · rw [putAll, fold_off _ _ t _ _ (fun i hi e => ht (by rw [← e]; exact p3 i (List.mem_range.1 hi))), hI.off t (fun i hi e => absurd (by rw [← e]; exact p3 i hi) ht)]
    rw [e]
    exact hend _ (fun i hi => hI.on i hi (hall i hi)) w listed hall (by rw [← e]; exact hC)
  have noready : ∀ (listed : Array Bool), listed.size = ops.size → Region.ready .any ops listed = [] → ∀ i, i < ops.size → listed.getD i false = true := by
    intro listed hs hr i
    induction i using Nat.strongRecOn with
    | _ i ih =>
      intro hi
      cases hl : listed.getD i false
      · exfalso
        have : i ∈ Region.ready .any ops listed := by
          refine mem_ready.2 ⟨?_, _, Array.getElem?_eq_getElem hi, fun e he _ => ?_⟩
          · simpa [Array.getD, show i < listed.size by omega] using hl
          · have hlt := (p1 i _ (Array.getElem?_eq_getElem hi)).2.2.2 e he
            exact ih e.on hlt (by omega)
        rw [hr] at this
        cases this
      · rfl
  intro fuel
  induction fuel with
  | zero =>
    intro listed a w hs hc hI hC
    have hall : ∀ i, i < ops.size → listed.getD i false = true := by
      intro i hi
      cases hl : listed.getD i false
      · exfalso
        have hm : false ∈ listed.toList := by
          have : listed[i]'(by omega) = false := by simpa [Array.getD, show i < listed.size by omega] using hl
          rw [← this]
          exact Array.mem_toList_iff.2 (Array.getElem_mem _)
        have := List.count_pos_iff.2 hm
        omega
      · rfl
    refine ⟨?_, fin listed a w hs hall hI hC⟩
    apply List.eq_nil_iff_forall_not_mem.2
    intro i hi
    obtain ⟨h0, o, ho, -⟩ := mem_ready.1 hi
    have hlt := (Array.getElem?_eq_some_iff.1 ho).1
    have := hall i hlt
    simp [Array.getD, show i < listed.size by omega] at h0 this
    rw [this] at h0; cases h0
  | succ fuel ih =>
    intro listed a w hs hc hI hC
    refine ⟨fun hr => fin listed a w hs (noready listed hs hr) hI hC, fun i hi => ?_⟩
    obtain ⟨h0, o, ho, hall⟩ := mem_ready.1 hi
    have hlt := (Array.getElem?_eq_some_iff.1 ho).1
    obtain ⟨q1, q2, q3, q4⟩ := p1 i o ho
    have h := hop i o a w listed ho hs hC (by simpa [Array.getD, show i < listed.size by omega] using h0) (fun e he hb => hall e he hb) hI.defers hI.size hI.off hI.clos (fun e he hb => hI.on e.on (by have := q4 e he; omega) (hall e he hb))
    unfold wpOp
    rw [ho]
    simp only [Region.wanted, q1, if_true]
    left
    refine Oper.wp_mono (fun a' w' h' => ?_) h
    obtain ⟨v, hv, rfl, hC'⟩ := h'
    have hli : listed[i]'(by omega) = false := by simpa [Array.getD, show i < listed.size by omega] using h0
    refine ih _ _ _ (by simpa using hs) ?_ ⟨?_, ?_, ?_, ?_, ?_⟩ hC'
    · rw [Array.toList_setIfInBounds, List.count_set (by simpa using (by omega : i < listed.size))]
      have : (listed.toList[i]'(by simpa using (by omega : i < listed.size))) = false := by simpa using hli
      rw [this, if_pos (by rfl), if_neg (by decide), hc]
      rfl
    · rw [put_defers]; exact hI.defers
    · rw [put_size]; exact hI.size
    · intro t ht
      have hit : ¬ t = dstAt ops i := by
        intro e
        have := ht i hlt e.symm
        simp [Array.getD, show i < listed.size by omega] at this
      rw [q2, put_tmps, if_neg (fun ⟨e, _⟩ => hit e), hI.off t]
      intro j hj hjt
      have := ht j hj hjt
      have hji : ¬ i = j := fun e => hit (by rw [e]; exact hjt.symm)
      simpa [Array.getD, show j < listed.size by omega, Array.getElem_setIfInBounds, hji] using this
    · intro j hj hlj
      rw [q2, put_tmps]
      by_cases hij : j = i
      · subst hij
        rw [if_pos ⟨rfl, by rw [hI.size]; exact q3⟩]; exact hv
      · rw [if_neg (fun ⟨e, _⟩ => hij (p2 j i hj hlt e))]
        refine hI.on j hj ?_
        have hji : ¬ i = j := fun e => hij e.symm
        simpa [Array.getD, show j < listed.size by omega, Array.getElem_setIfInBounds, hji] using hlj
    · intro j o' hj' hlj e he hb
      have hj := (Array.getElem?_eq_some_iff.1 hj').1
      have key : listed.getD e.on false = true := by
        by_cases hij : j = i
        · subst hij
          rw [ho] at hj'; cases hj'
          exact hall e he hb
        · have hji : ¬ i = j := fun e => hij e.symm
          refine hI.clos j o' hj' ?_ e he hb
          simpa [Array.getD, show j < listed.size by omega, Array.getElem_setIfInBounds, hji] using hlj
      by_cases hei : i = e.on
      · rw [← hei] at key
        rw [Array.getD, dif_pos (by omega)] at key
        exact absurd (hli.symm.trans key) (by simp)
      · have hlt' : e.on < listed.size := by
          apply Classical.byContradiction; intro hn
          rw [Array.getD, dif_neg hn] at key; cases key
        simpa [Array.getD, hlt', Array.getElem_setIfInBounds, hei] using key

/-- THE LAW, where the world's class depends on what has run, and on what it left. -/
theorem wp_region_inv3 {id : Nat} {w : World} {l : List Oper} (S : Nat → Value → Prop) (D : Array Bool → Act → World → Prop) (hm : P.follows .mixedOrders = true) (hplain : regionPlain l.toArray a0.tmps.size = true) (hC : D (Array.replicate l.toArray.size false) a0 { w with drawn := w.drawn + 1 })
    (hop : ∀ (i : Nat) (o : Oper) (a : Act) (w : World) (listed : Array Bool), l.toArray[i]? = some o → listed.size = l.toArray.size → D listed a w → listed.getD i false = false → (∀ e ∈ o.after, Region.binds .any e = true → listed.getD e.on false = true) → a.defers = a0.defers → a.tmps.size = a0.tmps.size →
      (∀ t, t ∉ regionDsts l.toArray → a.tmps.getD t undef = a0.tmps.getD t undef) →
      (∀ j, j < l.toArray.size → listed.getD j false = false → a.tmps.getD (dstAt l.toArray j) undef = a0.tmps.getD (dstAt l.toArray j) undef) →
      (∀ i o, l.toArray[i]? = some o → listed.getD i false = true → ∀ e ∈ o.after, Region.binds .any e = true → listed.getD e.on false = true) →
      (∀ e ∈ o.after, Region.binds .any e = true → S e.on (a.tmps.getD (dstAt l.toArray e.on) undef)) →
      o.wp P a w (fun a' w' => ∃ v, S i v ∧ a' = a.put o.dst v ∧ D (listed.setIfInBounds i true) a' w') Q)
    (hend : ∀ v : Nat → Value, (∀ i, i < l.toArray.size → S i (v i)) → ∀ w' listed, (∀ i, i < l.toArray.size → listed.getD i false = true) → D listed (putAll l.toArray v a0) w' → Q .normal (putAll l.toArray v a0) w') : (Code.region id l.toArray true).wp P Q a0 w := by
  obtain ⟨p1, p2, p3, p4⟩ := plain_parts hplain
  refine wp_region_any hm (wpAny_inv3 (D := D) hplain (fun i o a w listed h1 h0 h2 h3 h4 h5 h9 h6 h7 h8 => hop i o a w listed h1 h0 h2 h3 h4 h5 h9 (fun t ht => h6 t fun i hi e => absurd (by rw [← e]; exact p3 i hi) ht) (fun j hj hl => h6 _ fun i hi e => by rw [p2 i j hi hj e]; exact hl) h7 h8) hend _ _ _ _ (by simp) (by simp) ⟨rfl, rfl, fun _ _ => rfl, fun i hi h => ?_, fun i o hi h => ?_⟩ hC)
  · simp [Array.getD] at h
  · simp [Array.getD] at h

theorem listed_ne {l : Array Bool} {i k : Nat} (h : i ≠ k) : (l.setIfInBounds i true).getD k false = l.getD k false := by
  rw [Array.getD_eq_getD_getElem?, Array.getD_eq_getD_getElem?, Array.getElem?_setIfInBounds, if_neg h]
theorem listed_eq {l : Array Bool} {i : Nat} (h : i < l.size) : (l.setIfInBounds i true).getD i false = true := by
  rw [Array.getD_eq_getD_getElem?, Array.getElem?_setIfInBounds, if_pos rfl, if_pos h]; rfl

end
end Go
