/- A region whose order is open, with operations that write no temporary (a store). -/
import Derived.Test.YtnpgpkbnfibkkaaFk
namespace Go

/-- The temporary of operation i; for an operation that has none, a number beyond all temporaries. -/
def dst2 (ops : Array Oper) (i : Nat) : Nat := (((ops[i]?).bind (·.dst)).getD (100000 + i))
def dstO (ops : Array Oper) (i : Nat) : Option Tmp := (ops[i]?).bind (·.dst)
def regionDsts2 (ops : Array Oper) : List Nat := (List.range ops.size).map (dst2 ops)
def regionPlain2 (ops : Array Oper) (size : Nat) : Bool :=
  ((List.range ops.size).all fun i => match ops[i]? with | some o => o.guard.isNone && (match o.dst with | some d => decide (d < size) | none => true) && o.after.all fun e => decide (e.on < i) | none => true) &&
  (regionDsts2 ops).Nodup && decide (size ≤ 100000)

def putAll2 (ops : Array Oper) (v : Nat → Value) (a : Act) : Act :=
  (List.range ops.size).foldl (fun a i => a.put (dstO ops i) (v i)) a

theorem put_far {a : Act} {d : Nat} (h : a.tmps.size ≤ d) (v : Value) : a.put (some d) v = a := by
  refine act_ext (put_defers ..) (put_size ..) fun t ht => ?_
  rw [put_tmps, if_neg (by rw [put_size] at ht; omega)]

theorem put_dst2 {ops : Array Oper} {size : Nat} (hs : size ≤ 100000) {a : Act} (ha : a.tmps.size = size) (i : Nat) (v : Value) : a.put (dstO ops i) v = a.put (some (dst2 ops i)) v := by
  unfold dst2 dstO
  cases h : (ops[i]?).bind (·.dst) with
  | some d => rfl
  | none => rw [Option.getD_none, put_far (by omega)]; rfl

theorem putAll2_eq {ops : Array Oper} {size : Nat} (hs : size ≤ 100000) (v : Nat → Value) : ∀ (l : List Nat) (a : Act), a.tmps.size = size → l.foldl (fun a i => a.put (dstO ops i) (v i)) a = l.foldl (fun a i => a.put (some (dst2 ops i)) (v i)) a
  | [], _, _ => rfl
  | i :: l, a, h => by
    rw [List.foldl_cons, List.foldl_cons, put_dst2 hs h]
    exact putAll2_eq hs v l _ (by rw [put_size]; exact h)

section
variable {P : Program} {ops : Array Oper} {Q : Exit → Act → World → Prop} {S : Nat → Value → Prop} {a0 : Act}

theorem plain_parts2 {size : Nat} (h : regionPlain2 ops size = true) :
    (∀ i o, ops[i]? = some o → o.guard = none ∧ o.dst = dstO ops i ∧ (∀ d, o.dst = some d → d < size) ∧ ∀ e ∈ o.after, e.on < i) ∧ (∀ i j, i < ops.size → j < ops.size → dst2 ops i = dst2 ops j → i = j) ∧ (∀ i, i < ops.size → dst2 ops i ∈ regionDsts2 ops) ∧ (∀ t, t ∈ regionDsts2 ops → ∃ i, i < ops.size ∧ dst2 ops i = t) ∧ size ≤ 100000 := by
  unfold regionPlain2 at h
  simp only [Bool.and_eq_true, decide_eq_true_eq, List.all_eq_true] at h
  obtain ⟨⟨h1, h2⟩, h3⟩ := h
  refine ⟨fun i o ho => ?_, ?_, ?_, ?_, h3⟩
  · have hi := (Array.getElem?_eq_some_iff.1 ho).1
    have := h1 i (List.mem_range.2 hi)
    rw [ho] at this
    simp only [Bool.and_eq_true, Array.all_eq_true_iff_forall_mem, decide_eq_true_eq] at this
    refine ⟨by simpa using this.1.1, by unfold dstO; rw [ho]; rfl, fun d hd => ?_, this.2⟩
    have h4 := this.1.2
    rw [hd] at h4
    simpa using h4
  · intro i j hi hj e
    unfold regionDsts2 at h2
    have h4 := List.pairwise_iff_getElem.1 h2
    rcases Nat.lt_trichotomy i j with h | h | h
    · exact absurd (by rw [List.getElem_map, List.getElem_map, List.getElem_range, List.getElem_range]; exact e) (h4 i j (by simpa using hi) (by simpa using hj) h)
    · exact h
    · exact absurd (by rw [List.getElem_map, List.getElem_map, List.getElem_range, List.getElem_range]; exact e.symm) (h4 j i (by simpa using hj) (by simpa using hi) h)
  · intro i hi; exact List.mem_map.2 ⟨i, List.mem_range.2 hi, rfl⟩
  · intro t ht
    obtain ⟨i, hi, rfl⟩ := List.mem_map.1 ht
    exact ⟨i, List.mem_range.1 hi, rfl⟩

/-- What is known of the frame while the region runs. -/
structure RInv4 (ops : Array Oper) (S : Nat → Value → Prop) (a0 : Act) (listed : Array Bool) (a : Act) : Prop where
  defers : a.defers = a0.defers
  size : a.tmps.size = a0.tmps.size
  off : ∀ t, (∀ i, i < ops.size → dst2 ops i = t → listed.getD i false = false) → a.tmps.getD t undef = a0.tmps.getD t undef
  on : ∀ i, i < ops.size → listed.getD i false = true → S i (a.tmps.getD (dst2 ops i) undef)
  clos : ∀ i o, ops[i]? = some o → listed.getD i false = true → ∀ e ∈ o.after, Region.binds .any e = true → listed.getD e.on false = true

theorem wpAny_inv4 {D : Array Bool → Act → World → Prop} (hplain : regionPlain2 ops a0.tmps.size = true)
    (hop : ∀ (i : Nat) (o : Oper) (a : Act) (w : World) (listed : Array Bool), ops[i]? = some o → listed.size = ops.size → D listed a w → listed.getD i false = false → (∀ e ∈ o.after, Region.binds .any e = true → listed.getD e.on false = true) → a.defers = a0.defers → a.tmps.size = a0.tmps.size → (∀ t, (∀ i, i < ops.size → dst2 ops i = t → listed.getD i false = false) → a.tmps.getD t undef = a0.tmps.getD t undef) → (∀ i o, ops[i]? = some o → listed.getD i false = true → ∀ e ∈ o.after, Region.binds .any e = true → listed.getD e.on false = true) → (∀ e ∈ o.after, Region.binds .any e = true → S e.on (a.tmps.getD (dst2 ops e.on) undef)) →
      o.wp P a w (fun a' w' => ∃ v, S i v ∧ (o.dst = none → v = undef) ∧ a' = a.put o.dst v ∧ D (listed.setIfInBounds i true) a' w') Q)
    (hend : ∀ v : Nat → Value, (∀ i, i < ops.size → S i (v i)) → ∀ w' listed, (∀ i, i < ops.size → listed.getD i false = true) → D listed (putAll2 ops v a0) w' → Q .normal (putAll2 ops v a0) w') :
    ∀ (fuel : Nat) (listed : Array Bool) (a : Act) (w : World), listed.size = ops.size → listed.toList.count false = fuel → RInv4 ops S a0 listed a → D listed a w → wpAny P .any ops Q fuel listed a w := by
  obtain ⟨p1, p2, p3, p4, p5⟩ := plain_parts2 hplain
  have fin : ∀ (listed : Array Bool) (a : Act) (w : World), listed.size = ops.size → (∀ i, i < ops.size → listed.getD i false = true) → RInv4 ops S a0 listed a → D listed a w → Q .normal a w := by
    intro listed a w hs hall hI hC
    have e : a = putAll2 ops (fun i => a.tmps.getD (dst2 ops i) undef) a0 := by
      refine act_ext ?_ ?_ ?_
      · rw [putAll2, putAll2_eq p5 _ _ _ rfl, fold_defers]; exact hI.defers
      · rw [putAll2, putAll2_eq p5 _ _ _ rfl, fold_size]; exact hI.size
      · intro t ht0
        rw [hI.size] at ht0
        by_cases ht : t ∈ regionDsts2 ops
        · obtain ⟨i, hi, rfl⟩ := p4 t ht
          rw [putAll2, putAll2_eq p5 _ _ _ rfl, fold_on (dst2 ops) (fun i => a.tmps.getD (dst2 ops i) undef) i _ _ List.nodup_range (fun j hj e => p2 j i (List.mem_range.1 hj) hi e) (List.mem_range.2 hi) ht0]
        · rw [putAll2, putAll2_eq p5 _ _ _ rfl, fold_off _ _ t _ _ (fun i hi e => ht (by rw [← e]; exact p3 i (List.mem_range.1 hi))), hI.off t (fun i hi e => absurd (by rw [← e]; exact p3 i hi) ht)]
    rw [e]
    exact hend _ (fun i hi => hI.on i hi (hall i hi)) w listed hall (by rw [← e]; exact hC)
  have noready : ∀ (listed : Array Bool), listed.size = ops.size → Region.ready .any ops listed = [] → ∀ i, i < ops.size → listed.getD i false = true := by
    intro listed hs hr i
    induction i using Nat.strongRecOn with
    | _ i ih =>
      intro hi
      cases hl : listed.getD i false
      · exfalso
        have : i ∈ Region.ready .any ops listed := by
          refine mem_ready.2 ⟨?_, _, Array.getElem?_eq_getElem hi, fun e he _ => ?_⟩
          · simpa [Array.getD, show i < listed.size by omega] using hl
          · have hlt := (p1 i _ (Array.getElem?_eq_getElem hi)).2.2.2 e he
            exact ih e.on hlt (by omega)
        rw [hr] at this
        cases this
      · rfl
  intro fuel
  induction fuel with
  | zero =>
    intro listed a w hs hc hI hC
    have hall : ∀ i, i < ops.size → listed.getD i false = true := by
      intro i hi
      cases hl : listed.getD i false
      · exfalso
        have hm : false ∈ listed.toList := by
          have : listed[i]'(by omega) = false := by simpa [Array.getD, show i < listed.size by omega] using hl
          rw [← this]
          exact Array.mem_toList_iff.2 (Array.getElem_mem _)
        have := List.count_pos_iff.2 hm
        omega
      · rfl
    refine ⟨?_, fin listed a w hs hall hI hC⟩
    apply List.eq_nil_iff_forall_not_mem.2
    intro i hi
    obtain ⟨h0, o, ho, -⟩ := mem_ready.1 hi
    have hlt := (Array.getElem?_eq_some_iff.1 ho).1
    have := hall i hlt
    simp [Array.getD, show i < listed.size by omega] at h0 this
    rw [this] at h0; cases h0
  | succ fuel ih =>
    intro listed a w hs hc hI hC
    refine ⟨fun hr => fin listed a w hs (noready listed hs hr) hI hC, fun i hi => ?_⟩
    obtain ⟨h0, o, ho, hall⟩ := mem_ready.1 hi
    have hlt := (Array.getElem?_eq_some_iff.1 ho).1
    obtain ⟨q1, q2, q3, q4⟩ := p1 i o ho
    have h := hop i o a w listed ho hs hC (by simpa [Array.getD, show i < listed.size by omega] using h0) (fun e he hb => hall e he hb) hI.defers hI.size hI.off hI.clos (fun e he hb => hI.on e.on (by have := q4 e he; omega) (hall e he hb))
    unfold wpOp
    rw [ho]
    simp only [Region.wanted, q1, if_true]
    left
    refine Oper.wp_mono (fun a' w' h' => ?_) h
    obtain ⟨v, hv, hno, rfl, hC'⟩ := h'
    have hli : listed[i]'(by omega) = false := by simpa [Array.getD, show i < listed.size by omega] using h0
    refine ih _ _ _ (by simpa using hs) ?_ ⟨?_, ?_, ?_, ?_, ?_⟩ hC'
    · rw [Array.toList_setIfInBounds, List.count_set (by simpa using (by omega : i < listed.size))]
      have : (listed.toList[i]'(by simpa using (by omega : i < listed.size))) = false := by simpa using hli
      rw [this, if_pos (by rfl), if_neg (by decide), hc]
      rfl
    · rw [put_defers]; exact hI.defers
    · rw [put_size]; exact hI.size
    · intro t ht
      have hit : ¬ t = dst2 ops i := by
        intro e
        have := ht i hlt e.symm
        simp [Array.getD, show i < listed.size by omega] at this
      rw [q2, put_dst2 p5 hI.size, put_tmps, if_neg (fun ⟨e, _⟩ => hit e), hI.off t]
      intro j hj hjt
      have := ht j hj hjt
      have hji : ¬ i = j := fun e => hit (by rw [e]; exact hjt.symm)
      simpa [Array.getD, show j < listed.size by omega, Array.getElem_setIfInBounds, hji] using this
    · intro j hj hlj
      rw [q2, put_dst2 p5 hI.size, put_tmps]
      by_cases hij : j = i
      · subst hij
        cases hdo : o.dst with
        | some d =>
          have e : dst2 ops j = d := by unfold dst2; rw [ho]; simp [hdo]
          rw [if_pos ⟨rfl, by rw [hI.size, e]; exact q3 d hdo⟩]; exact hv
        | none =>
          have e : dst2 ops j = 100000 + j := by unfold dst2; rw [ho]; simp [hdo]
          have hsz := hI.size
          rw [if_neg (by rw [e]; omega), e]
          have hu : a.tmps.getD (100000 + j) undef = undef := by rw [Array.getD, dif_neg (by omega)]
          rw [hu, ← hno hdo]
          exact hv
      · rw [if_neg (fun ⟨e, _⟩ => hij (p2 j i hj hlt e))]
        refine hI.on j hj ?_
        have hji : ¬ i = j := fun e => hij e.symm
        simpa [Array.getD, show j < listed.size by omega, Array.getElem_setIfInBounds, hji] using hlj
    · intro j o' hj' hlj e he hb
      have hj := (Array.getElem?_eq_some_iff.1 hj').1
      have key : listed.getD e.on false = true := by
        by_cases hij : j = i
        · subst hij
          rw [ho] at hj'; cases hj'
          exact hall e he hb
        · have hji : ¬ i = j := fun e => hij e.symm
          refine hI.clos j o' hj' ?_ e he hb
          simpa [Array.getD, show j < listed.size by omega, Array.getElem_setIfInBounds, hji] using hlj
      by_cases hei : i = e.on
      · rw [← hei] at key
        rw [Array.getD, dif_pos (by omega)] at key
        exact absurd (hli.symm.trans key) (by simp)
      · have hlt' : e.on < listed.size := by
          apply Classical.byContradiction; intro hn
          rw [Array.getD, dif_neg hn] at key; cases key
        simpa [Array.getD, hlt', Array.getElem_setIfInBounds, hei] using key

/-- THE LAW, where the world's class depends on what has run, and on what it left. -/
theorem wp_region_inv4 {id : Nat} {w : World} {l : List Oper} (S : Nat → Value → Prop) (D : Array Bool → Act → World → Prop) (hm : P.follows .mixedOrders = true) (hplain : regionPlain2 l.toArray a0.tmps.size = true) (hC : D (Array.replicate l.toArray.size false) a0 { w with drawn := w.drawn + 1 })
    (hop : ∀ (i : Nat) (o : Oper) (a : Act) (w : World) (listed : Array Bool), l.toArray[i]? = some o → listed.size = l.toArray.size → D listed a w → listed.getD i false = false → (∀ e ∈ o.after, Region.binds .any e = true → listed.getD e.on false = true) → a.defers = a0.defers → a.tmps.size = a0.tmps.size →
      (∀ t, t ∉ regionDsts2 l.toArray → a.tmps.getD t undef = a0.tmps.getD t undef) →
      (∀ j, j < l.toArray.size → listed.getD j false = false → a.tmps.getD (dst2 l.toArray j) undef = a0.tmps.getD (dst2 l.toArray j) undef) →
      (∀ i o, l.toArray[i]? = some o → listed.getD i false = true → ∀ e ∈ o.after, Region.binds .any e = true → listed.getD e.on false = true) →
      (∀ e ∈ o.after, Region.binds .any e = true → S e.on (a.tmps.getD (dst2 l.toArray e.on) undef)) →
      o.wp P a w (fun a' w' => ∃ v, S i v ∧ (o.dst = none → v = undef) ∧ a' = a.put o.dst v ∧ D (listed.setIfInBounds i true) a' w') Q)
    (hend : ∀ v : Nat → Value, (∀ i, i < l.toArray.size → S i (v i)) → ∀ w' listed, (∀ i, i < l.toArray.size → listed.getD i false = true) → D listed (putAll2 l.toArray v a0) w' → Q .normal (putAll2 l.toArray v a0) w') : (Code.region id l.toArray true).wp P Q a0 w := by
  obtain ⟨p1, p2, p3, p4, p5⟩ := plain_parts2 hplain
  refine wp_region_any hm (wpAny_inv4 (D := D) hplain (fun i o a w listed h1 h0 h2 h3 h4 h5 h9 h6 h7 h8 => hop i o a w listed h1 h0 h2 h3 h4 h5 h9 (fun t ht => h6 t fun i hi e => absurd (by rw [← e]; exact p3 i hi) ht) (fun j hj hl => h6 _ fun i hi e => by rw [p2 i j hi hj e]; exact hl) h7 h8) hend _ _ _ _ (by simp) (by simp) ⟨rfl, rfl, fun _ _ => rfl, fun i hi h => ?_, fun i o hi h => ?_⟩ hC)
  · simp [Array.getD] at h
  · simp [Array.getD] at h


end
end Go
