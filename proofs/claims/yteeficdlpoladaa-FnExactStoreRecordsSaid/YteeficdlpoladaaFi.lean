/- A region whose order is open and whose operations may leave one of several values: what each leaves, whatever the order. -/
import Derived.Test.YteeficdlpoladaaFh
import Derived.Orders
import Derived.Deep.Quiet
namespace Go

/-- The temporaries that the operations of a region write. -/
def regionDsts (ops : Array Oper) : List Nat := ops.toList.filterMap (·.dst)

/-- No guards, each operation writes a temporary of its own, and waits for earlier ones alone. -/
def regionPlain (ops : Array Oper) (size : Nat) : Bool :=
  (ops.toList.all fun o => o.guard.isNone && o.dst.isSome && (o.dst.getD 0 < size)) && (regionDsts ops).Nodup &&
  (List.range ops.size).all fun i => match ops[i]? with | some o => o.after.all fun e => e.on < i | none => true

def dstAt (ops : Array Oper) (i : Nat) : Nat := ((ops[i]?).bind (·.dst)).getD 0

/-- The frame with the values v of all operations. -/
def putAll (ops : Array Oper) (v : Nat → Value) (a : Act) : Act :=
  (List.range ops.size).foldl (fun a i => a.put (some (dstAt ops i)) (v i)) a

theorem put_tmps (a : Act) (d : Nat) (v : Value) (t : Nat) : (a.put (some d) v).tmps.getD t undef = if t = d ∧ d < a.tmps.size then v else a.tmps.getD t undef := by
  unfold Act.put
  simp only [Array.getD_eq_getD_getElem?]
  rw [Array.getElem?_setIfInBounds]
  by_cases h : d = t
  · subst h
    by_cases h2 : d < a.tmps.size
    · simp [h2]
    · simp [h2]
  · simp [h, show ¬ t = d from fun e => h e.symm]

theorem put_size (a : Act) (d : Option Nat) (v : Value) : (a.put d v).tmps.size = a.tmps.size := by
  unfold Act.put
  cases d <;> simp

theorem put_defers (a : Act) (d : Option Nat) (v : Value) : (a.put d v).defers = a.defers := by
  unfold Act.put
  cases d <;> rfl

theorem fold_size (f : Nat → Nat) (v : Nat → Value) : ∀ (l : List Nat) (a : Act), (l.foldl (fun a i => a.put (some (f i)) (v i)) a).tmps.size = a.tmps.size
  | [], _ => rfl
  | i :: l, a => by rw [List.foldl_cons, fold_size f v l, put_size]

theorem fold_defers (f : Nat → Nat) (v : Nat → Value) : ∀ (l : List Nat) (a : Act), (l.foldl (fun a i => a.put (some (f i)) (v i)) a).defers = a.defers
  | [], _ => rfl
  | i :: l, a => by rw [List.foldl_cons, fold_defers f v l, put_defers]

theorem fold_off (f : Nat → Nat) (v : Nat → Value) (t : Nat) : ∀ (l : List Nat) (a : Act), (∀ i ∈ l, f i ≠ t) → (l.foldl (fun a i => a.put (some (f i)) (v i)) a).tmps.getD t undef = a.tmps.getD t undef
  | [], _, _ => rfl
  | i :: l, a, h => by
    rw [List.foldl_cons, fold_off f v t l _ (fun j hj => h j (List.mem_cons_of_mem _ hj)), put_tmps, if_neg]
    exact fun ⟨e, _⟩ => h i List.mem_cons_self e.symm

theorem fold_on (f : Nat → Nat) (v : Nat → Value) (j : Nat) : ∀ (l : List Nat) (a : Act), l.Nodup → (∀ i ∈ l, f i = f j → i = j) → j ∈ l → f j < a.tmps.size → (l.foldl (fun a i => a.put (some (f i)) (v i)) a).tmps.getD (f j) undef = v j
  | [], _, _, _, h, _ => by cases h
  | i :: l, a, hd, hi, hj, hs => by
    rw [List.foldl_cons]
    rw [List.nodup_cons] at hd
    by_cases hjl : j ∈ l
    · exact fold_on f v j l _ hd.2 (fun i hi' => hi i (List.mem_cons_of_mem _ hi')) hjl (by rw [put_size]; exact hs)
    · have hij : i = j := by
        rcases List.mem_cons.1 hj with h | h
        · exact h.symm
        · exact absurd h hjl
      subst hij
      rw [fold_off f v (f i) l _ (fun i' hi' e => hjl (by rw [← hi i' (List.mem_cons_of_mem _ hi') e]; exact hi')), put_tmps, if_pos ⟨rfl, hs⟩]

theorem act_ext {a b : Act} (h1 : a.defers = b.defers) (h2 : a.tmps.size = b.tmps.size) (h3 : ∀ t, t < a.tmps.size → a.tmps.getD t undef = b.tmps.getD t undef) : a = b := by
  cases a with | mk at_ ad =>
  cases b with | mk bt bd =>
  simp only at h1 h2 h3
  subst h1
  have : at_ = bt := by
    apply Array.ext h2
    intro i hi hi'
    have := h3 i hi
    simpa [Array.getD, hi, hi'] using this
  rw [this]

theorem filterMap_dst : ∀ {l : List Oper}, (∀ o ∈ l, o.dst.isSome = true) → l.filterMap (·.dst) = l.map fun o => o.dst.getD 0
  | [], _ => rfl
  | o :: l, h => by
    obtain ⟨d, hd⟩ := Option.isSome_iff_exists.1 (h o List.mem_cons_self)
    rw [List.filterMap_cons, hd, List.map_cons, hd, filterMap_dst fun o ho => h o (List.mem_cons_of_mem _ ho)]
    rfl

section
variable {P : Program} {ops : Array Oper} {Q : Exit → Act → World → Prop} {C : World → Prop} {S : Nat → Value → Prop} {a0 : Act}

/-- What is known of the frame while the region runs. -/
structure RInv (ops : Array Oper) (S : Nat → Value → Prop) (a0 : Act) (listed : Array Bool) (a : Act) : Prop where
  defers : a.defers = a0.defers
  size : a.tmps.size = a0.tmps.size
  off : ∀ t, t ∉ regionDsts ops → a.tmps.getD t undef = a0.tmps.getD t undef
  on : ∀ i, i < ops.size → listed.getD i false = true → S i (a.tmps.getD (dstAt ops i) undef)

theorem plain_parts {size : Nat} (h : regionPlain ops size = true) :
    (∀ i o, ops[i]? = some o → o.guard = none ∧ o.dst = some (dstAt ops i) ∧ dstAt ops i < size ∧ ∀ e ∈ o.after, e.on < i) ∧ (∀ i j, i < ops.size → j < ops.size → dstAt ops i = dstAt ops j → i = j) ∧ (∀ i, i < ops.size → dstAt ops i ∈ regionDsts ops) ∧ (∀ t, t ∈ regionDsts ops → ∃ i, i < ops.size ∧ dstAt ops i = t) := by
  unfold regionPlain at h
  simp only [Bool.and_eq_true, decide_eq_true_eq, List.all_eq_true] at h
  obtain ⟨⟨h1, h2⟩, h3⟩ := h
  have k1 : ∀ i o, ops[i]? = some o → o.guard = none ∧ o.dst = some (dstAt ops i) ∧ dstAt ops i < size := by
    intro i o ho
    have hm : o ∈ ops.toList := by
      obtain ⟨hi, rfl⟩ := Array.getElem?_eq_some_iff.1 ho
      exact Array.mem_toList_iff.2 (Array.getElem_mem hi)
    obtain ⟨⟨a, b⟩, c⟩ := h1 o hm
    obtain ⟨d, hd⟩ := Option.isSome_iff_exists.1 b
    have e : dstAt ops i = d := by unfold dstAt; rw [ho]; simp [hd]
    rw [hd] at c
    exact ⟨by simpa using a, by rw [e]; exact hd, by rw [e]; simpa using c⟩
  have hlist : regionDsts ops = (List.range ops.size).map (dstAt ops) := by
    unfold regionDsts
    apply List.ext_getElem?
    intro i
    have : ops.toList.filterMap (·.dst) = ops.toList.map fun o => o.dst.getD 0 := filterMap_dst fun o ho => (h1 o ho).1.2
    rw [this, List.getElem?_map, List.getElem?_map, Array.getElem?_toList]
    by_cases hi : i < ops.size
    · rw [List.getElem?_range hi, Array.getElem?_eq_getElem hi]
      simp only [Option.map_some]
      unfold dstAt
      rw [Array.getElem?_eq_getElem hi]
      rfl
    · rw [Array.getElem?_eq_none (by omega), List.getElem?_eq_none (by simp; omega)]
      rfl
  refine ⟨fun i o ho => ⟨(k1 i o ho).1, (k1 i o ho).2.1, (k1 i o ho).2.2, ?_⟩, ?_, ?_, ?_⟩
  · have hi := (Array.getElem?_eq_some_iff.1 ho).1
    have := h3 i (List.mem_range.2 hi)
    rw [ho] at this
    simp only [Array.all_eq_true_iff_forall_mem, decide_eq_true_eq] at this
    exact this
  · intro i j hi hj e
    rw [hlist] at h2
    have h4 := List.pairwise_iff_getElem.1 h2
    rcases Nat.lt_trichotomy i j with h | h | h
    · exact absurd (by rw [List.getElem_map, List.getElem_map, List.getElem_range, List.getElem_range]; exact e) (h4 i j (by simpa using hi) (by simpa using hj) h)
    · exact h
    · exact absurd (by rw [List.getElem_map, List.getElem_map, List.getElem_range, List.getElem_range]; exact e.symm) (h4 j i (by simpa using hj) (by simpa using hi) h)
  · intro i hi; rw [hlist]; exact List.mem_map.2 ⟨i, List.mem_range.2 hi, rfl⟩
  · intro t ht; rw [hlist] at ht
    obtain ⟨i, hi, rfl⟩ := List.mem_map.1 ht
    exact ⟨i, List.mem_range.1 hi, rfl⟩

theorem wpAny_inv (hplain : regionPlain ops a0.tmps.size = true)
    (hop : ∀ (i : Nat) (o : Oper) (a : Act) (w : World), ops[i]? = some o → C w → a.defers = a0.defers → (∀ t, t ∉ regionDsts ops → a.tmps.getD t undef = a0.tmps.getD t undef) → (∀ e ∈ o.after, Region.binds .any e = true → S e.on (a.tmps.getD (dstAt ops e.on) undef)) →
      o.wp P a w (fun a' w' => ∃ v, S i v ∧ a' = a.put o.dst v ∧ C w') Q)
    (hend : ∀ v : Nat → Value, (∀ i, i < ops.size → S i (v i)) → ∀ w', C w' → Q .normal (putAll ops v a0) w') :
    ∀ (fuel : Nat) (listed : Array Bool) (a : Act) (w : World), listed.size = ops.size → listed.toList.count false = fuel → RInv ops S a0 listed a → C w → wpAny P .any ops Q fuel listed a w := by
  obtain ⟨p1, p2, p3, p4⟩ := plain_parts hplain
  have fin : ∀ (listed : Array Bool) (a : Act) (w : World), listed.size = ops.size → (∀ i, i < ops.size → listed.getD i false = true) → RInv ops S a0 listed a → C w → Q .normal a w := by
    intro listed a w hs hall hI hC
    have hd : ∀ i, i < ops.size → dstAt ops i < a0.tmps.size := fun i hi => (p1 i _ (Array.getElem?_eq_getElem hi)).2.2.1
    have e : a = putAll ops (fun i => a.tmps.getD (dstAt ops i) undef) a0 := by
      refine act_ext ?_ ?_ ?_
      · rw [putAll, fold_defers]; exact hI.defers
      · rw [putAll, fold_size]; exact hI.size
      · intro t _
        by_cases ht : t ∈ regionDsts ops
        · obtain ⟨i, hi, rfl⟩ := p4 t ht
          rw [putAll, fold_on (dstAt ops) (fun i => a.tmps.getD (dstAt ops i) undef) i _ _ List.nodup_range (fun j hj e => p2 j i (List.mem_range.1 hj) hi e) (List.mem_range.2 hi) (hd i hi)]
        · rw [putAll, fold_off _ _ t _ _ (fun i hi e => ht (by rw [← e]; exact p3 i (List.mem_range.1 hi))), hI.off t ht]
    rw [e]
    exact hend _ (fun i hi => hI.on i hi (hall i hi)) w hC
  have noready : ∀ (listed : Array Bool), listed.size = ops.size → Region.ready .any ops listed = [] → ∀ i, i < ops.size → listed.getD i false = true := by
    intro listed hs hr i
    induction i using Nat.strongRecOn with
    | _ i ih =>
      intro hi
      cases hl : listed.getD i false
      · exfalso
        have : i ∈ Region.ready .any ops listed := by
          refine mem_ready.2 ⟨?_, _, Array.getElem?_eq_getElem hi, fun e he _ => ?_⟩
          · simpa [Array.getD, show i < listed.size by omega] using hl
          · have hlt := (p1 i _ (Array.getElem?_eq_getElem hi)).2.2.2 e he
            exact ih e.on hlt (by omega)
        rw [hr] at this
        cases this
      · rfl
  intro fuel
  induction fuel with
  | zero =>
    intro listed a w hs hc hI hC
    have hall : ∀ i, i < ops.size → listed.getD i false = true := by
      intro i hi
      cases hl : listed.getD i false
      · exfalso
        have hm : false ∈ listed.toList := by
          have : listed[i]'(by omega) = false := by simpa [Array.getD, show i < listed.size by omega] using hl
          rw [← this]
          exact Array.mem_toList_iff.2 (Array.getElem_mem _)
        have := List.count_pos_iff.2 hm
        omega
      · rfl
    refine ⟨?_, fin listed a w hs hall hI hC⟩
    apply List.eq_nil_iff_forall_not_mem.2
    intro i hi
    obtain ⟨h0, o, ho, -⟩ := mem_ready.1 hi
    have hlt := (Array.getElem?_eq_some_iff.1 ho).1
    have := hall i hlt
    simp [Array.getD, show i < listed.size by omega] at h0 this
    rw [this] at h0; cases h0
  | succ fuel ih =>
    intro listed a w hs hc hI hC
    refine ⟨fun hr => fin listed a w hs (noready listed hs hr) hI hC, fun i hi => ?_⟩
    obtain ⟨h0, o, ho, hall⟩ := mem_ready.1 hi
    have hlt := (Array.getElem?_eq_some_iff.1 ho).1
    obtain ⟨q1, q2, q3, q4⟩ := p1 i o ho
    have h := hop i o a w ho hC hI.defers hI.off (fun e he hb => hI.on e.on (by have := q4 e he; omega) (hall e he hb))
    unfold wpOp
    rw [ho]
    simp only [Region.wanted, q1, if_true]
    left
    refine Oper.wp_mono (fun a' w' h' => ?_) h
    obtain ⟨v, hv, rfl, hC'⟩ := h'
    have hli : listed[i]'(by omega) = false := by simpa [Array.getD, show i < listed.size by omega] using h0
    refine ih _ _ _ (by simpa using hs) ?_ ⟨?_, ?_, ?_, ?_⟩ hC'
    · rw [Array.toList_setIfInBounds, List.count_set (by simpa using (by omega : i < listed.size))]
      have : (listed.toList[i]'(by simpa using (by omega : i < listed.size))) = false := by simpa using hli
      rw [this, if_pos (by rfl), if_neg (by decide), hc]
      rfl
    · rw [put_defers]; exact hI.defers
    · rw [put_size]; exact hI.size
    · intro t ht
      rw [q2, put_tmps, if_neg, hI.off t ht]
      rintro ⟨rfl, -⟩
      exact ht (p3 i hlt)
    · intro j hj hlj
      rw [q2, put_tmps]
      by_cases hij : j = i
      · subst hij
        rw [if_pos ⟨rfl, by rw [hI.size]; exact q3⟩]; exact hv
      · rw [if_neg (fun ⟨e, _⟩ => hij (p2 j i hj hlt e))]
        refine hI.on j hj ?_
        have hji : ¬ i = j := fun e => hij e.symm
        simpa [Array.getD, show j < listed.size by omega, Array.getElem_setIfInBounds, hji] using hlj

/-- THE LAW: a region that draws its order: each operation, whatever has run ahead of it, leaves a value of its kind 'S i', in a world of the class. -/
theorem wp_region_inv {id : Nat} {w : World} {l : List Oper} (S : Nat → Value → Prop) (C : World → Prop) (hm : P.follows .mixedOrders = true) (hplain : regionPlain l.toArray a0.tmps.size = true) (hC : C { w with drawn := w.drawn + 1 })
    (hop : ∀ (i : Nat) (o : Oper) (a : Act) (w : World), l.toArray[i]? = some o → C w → a.defers = a0.defers → (∀ t, t ∉ regionDsts l.toArray → a.tmps.getD t undef = a0.tmps.getD t undef) → (∀ e ∈ o.after, Region.binds .any e = true → S e.on (a.tmps.getD (dstAt l.toArray e.on) undef)) →
      o.wp P a w (fun a' w' => ∃ v, S i v ∧ a' = a.put o.dst v ∧ C w') Q)
    (hend : ∀ v : Nat → Value, (∀ i, i < l.toArray.size → S i (v i)) → ∀ w', C w' → Q .normal (putAll l.toArray v a0) w') : (Code.region id l.toArray true).wp P Q a0 w := by
  refine wp_region_any hm (wpAny_inv hplain hop hend _ _ _ _ (by simp) (by simp) ⟨rfl, rfl, fun _ _ => rfl, fun i hi h => ?_⟩ hC)
  simp [Array.getD] at h

end
end Go
