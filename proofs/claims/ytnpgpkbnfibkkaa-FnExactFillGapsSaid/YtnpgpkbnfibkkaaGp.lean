/- FillGaps in plain Lean: what lies between known values. -/
import Derived.Test.YtnpgpkbnfibkkaaGl
namespace Go.Proofs.Ytnpgpkbnfibkkaa
open Go.RowKit Go.FV

def kn (ks : List Bool) (j : Nat) : Bool := ks.getD j false

/-- The last known one ahead of k; the first known one from k on. -/
def lastK (ks : List Bool) : Nat → Option Nat
  | 0 => none
  | k + 1 => if kn ks k = true then some k else lastK ks k
def nextA (ks : List Bool) : Nat → Nat → Option Nat
  | 0, _ => none
  | f + 1, k => if kn ks k = true then some k else nextA ks f (k + 1)
def nextK (ks : List Bool) (k : Nat) : Option Nat := nextA ks (ks.length - k) k

theorem lastK_none {ks : List Bool} : ∀ {k : Nat}, (∀ j, j < k → kn ks j = false) → lastK ks k = none
  | 0, _ => rfl
  | k + 1, h => by rw [lastK, if_neg (by rw [h k (by omega)]; simp)]; exact lastK_none fun j hj => h j (by omega)
theorem lastK_some {ks : List Bool} {a : Nat} (ha : kn ks a = true) : ∀ {k : Nat}, a < k → (∀ j, a < j → j < k → kn ks j = false) → lastK ks k = some a
  | 0, h, _ => by omega
  | k + 1, h, hj => by
    rw [lastK]
    by_cases hk : k = a
    · subst hk; rw [if_pos ha]
    · rw [if_neg (by rw [hj k (by omega) (by omega)]; simp)]
      exact lastK_some ha (by omega) fun j h1 h2 => hj j h1 (by omega)
theorem lastK_spec {ks : List Bool} : ∀ (k : Nat), match lastK ks k with | none => ∀ j, j < k → kn ks j = false | some a => a < k ∧ kn ks a = true ∧ ∀ j, a < j → j < k → kn ks j = false
  | 0 => fun j h => by omega
  | k + 1 => by
    rw [lastK]
    by_cases hk : kn ks k = true
    · rw [if_pos hk]; exact ⟨by omega, hk, fun j h1 h2 => by omega⟩
    · rw [if_neg hk]
      have hk' : kn ks k = false := by simpa using hk
      have ih := @lastK_spec ks k
      cases h : lastK ks k with
      | none =>
        rw [h] at ih
        intro j hj
        by_cases e : j = k
        · rw [e]; exact hk'
        · exact ih j (by omega)
      | some a =>
        rw [h] at ih
        refine ⟨by have := ih.1; omega, ih.2.1, fun j h1 h2 => ?_⟩
        by_cases e : j = k
        · rw [e]; exact hk'
        · exact ih.2.2 j h1 (by omega)
theorem lastK_none' {ks : List Bool} {k : Nat} (h : lastK ks k = none) : ∀ j, j < k → kn ks j = false := by
  have := @lastK_spec ks k; rw [h] at this; exact this
theorem lastK_some' {ks : List Bool} {k a : Nat} (h : lastK ks k = some a) : a < k ∧ kn ks a = true ∧ ∀ j, a < j → j < k → kn ks j = false := by
  have := @lastK_spec ks k; rw [h] at this; exact this

theorem nextA_none {ks : List Bool} : ∀ {f k : Nat}, (∀ j, k ≤ j → j < k + f → kn ks j = false) → nextA ks f k = none
  | 0, _, _ => rfl
  | f + 1, k, h => by rw [nextA, if_neg (by rw [h k (by omega) (by omega)]; simp)]; exact nextA_none fun j h1 h2 => h j (by omega) (by omega)
theorem nextA_some {ks : List Bool} {b : Nat} (hb : kn ks b = true) : ∀ {f k : Nat}, k ≤ b → b < k + f → (∀ j, k ≤ j → j < b → kn ks j = false) → nextA ks f k = some b
  | 0, k, h1, h2, _ => by omega
  | f + 1, k, h1, h2, h => by
    rw [nextA]
    by_cases hk : k = b
    · subst hk; rw [if_pos hb]
    · rw [if_neg (by rw [h k (by omega) (by omega)]; simp)]
      exact nextA_some hb (by omega) (by omega) fun j h3 h4 => h j (by omega) h4
theorem nextK_none {ks : List Bool} {k : Nat} (h : ∀ j, k ≤ j → j < ks.length → kn ks j = false) : nextK ks k = none := nextA_none fun j h1 h2 => h j h1 (by omega)
theorem nextK_some {ks : List Bool} {k b : Nat} (hb : kn ks b = true) (hl : b < ks.length) (h1 : k ≤ b) (h : ∀ j, k ≤ j → j < b → kn ks j = false) : nextK ks k = some b := nextA_some hb h1 (by omega) h

/-- The value between two known ones. -/
def gapV (xs : List (FV .f32)) (a b k : Nat) : FV .f32 :=
  bin .add (xs.getD a zeroF) (bin .mul (bin .quo (of .f32 (floatOfInt .f32 ((k : Int) - a))) (of .f32 (floatOfInt .f32 ((b : Int) - a)))) (bin .sub (xs.getD b zeroF) (xs.getD a zeroF)))
def fillV (xs : List (FV .f32)) (ks : List Bool) (k : Nat) : FV .f32 :=
  if kn ks k = true then xs.getD k zeroF else match lastK ks k, nextK ks k with
    | none, some b => xs.getD b zeroF
    | some a, none => xs.getD a zeroF
    | some a, some b => gapV xs a b k
    | none, none => zeroF
def fillL (xs : List (FV .f32)) (ks : List Bool) : List (FV .f32) := (List.range xs.length).map (fillV xs ks)
theorem fillL_length (xs : List (FV .f32)) (ks : List Bool) : (fillL xs ks).length = xs.length := by unfold fillL; simp
theorem fillL_get {xs : List (FV .f32)} {ks : List Bool} {k : Nat} (h : k < xs.length) : (fillL xs ks)[k]? = some (fillV xs ks k) := by
  unfold fillL; rw [List.getElem?_map, List.getElem?_range h]; rfl

theorem fillV_known {xs : List (FV .f32)} {ks : List Bool} {k : Nat} {x : FV .f32} (h : kn ks k = true) (hx : xs[k]? = some x) : fillV xs ks k = x := by rw [fillV, if_pos h, getD_some hx]
theorem fillV_first {xs : List (FV .f32)} {ks : List Bool} {k b : Nat} {x : FV .f32} (h : kn ks k = false) (hl : lastK ks k = none) (hn : nextK ks k = some b) (hx : xs[b]? = some x) : fillV xs ks k = x := by
  rw [fillV, if_neg (by rw [h]; simp), hl, hn]; exact getD_some hx
theorem fillV_end {xs : List (FV .f32)} {ks : List Bool} {k a : Nat} {x : FV .f32} (h : kn ks k = false) (hl : lastK ks k = some a) (hn : nextK ks k = none) (hx : xs[a]? = some x) : fillV xs ks k = x := by
  rw [fillV, if_neg (by rw [h]; simp), hl, hn]; exact getD_some hx
theorem fillV_gap {xs : List (FV .f32)} {ks : List Bool} {k a b : Nat} {x y : FV .f32} (h : kn ks k = false) (hl : lastK ks k = some a) (hn : nextK ks k = some b) (hx : xs[a]? = some x) (hy : xs[b]? = some y) :
    fillV xs ks k = bin .add x (bin .mul (bin .quo (of .f32 (floatOfInt .f32 ((k : Int) - a))) (of .f32 (floatOfInt .f32 ((b : Int) - a)))) (bin .sub y x)) := by
  rw [fillV, if_neg (by rw [h]; simp), hl, hn]; show gapV xs a b k = _; rw [gapV, getD_some hx, getD_some hy]

/-- What the reference holds when it has filled up to u. -/
def mix (xs : List (FV .f32)) (ks : List Bool) (u : Nat) : List (FV .f32) := (fillL xs ks).take u ++ xs.drop u
theorem mix_zero (xs : List (FV .f32)) (ks : List Bool) : mix xs ks 0 = xs := rfl
theorem mix_length {xs : List (FV .f32)} {ks : List Bool} {u : Nat} (h : u ≤ xs.length) : (mix xs ks u).length = xs.length := by
  unfold mix; rw [List.length_append, List.length_take, List.length_drop, fillL_length]; omega
theorem mix_all (xs : List (FV .f32)) (ks : List Bool) : mix xs ks xs.length = fillL xs ks := by
  unfold mix; rw [List.drop_length, List.append_nil, ← fillL_length xs ks, List.take_length]
theorem mix_get {xs : List (FV .f32)} {ks : List Bool} {u k : Nat} (hk : k < xs.length) : (mix xs ks u)[k]? = if k < u then some (fillV xs ks k) else xs[k]? := by
  unfold mix
  by_cases h : k < u
  · rw [if_pos h, List.getElem?_append_left (by rw [List.length_take, fillL_length]; omega), List.getElem?_take, if_pos h, fillL_get hk]
  · have hu : ((fillL xs ks).take u).length = u := by rw [List.length_take, fillL_length]; omega
    rw [if_neg h, List.getElem?_append_right (by omega), List.getElem?_drop, hu]
    congr 1; omega
theorem mix_set {xs : List (FV .f32)} {ks : List Bool} {u : Nat} (h : u < xs.length) : (mix xs ks u).set u (fillV xs ks u) = mix xs ks (u + 1) := by
  apply List.ext_getElem?
  intro k
  by_cases hk : k < xs.length
  · rw [List.getElem?_set, mix_get hk, mix_get hk, mix_length (by omega)]
    by_cases e : u = k
    · subst e; rw [if_pos rfl, if_pos h, if_pos (by omega)]
    · rw [if_neg e]
      by_cases h1 : k < u
      · rw [if_pos h1, if_pos (by omega)]
      · rw [if_neg h1, if_neg (by omega)]
  · rw [List.getElem?_eq_none (by rw [List.length_set, mix_length (by omega)]; omega), List.getElem?_eq_none (by rw [mix_length (by omega)]; omega)]
theorem mix_same {xs : List (FV .f32)} {ks : List Bool} {u : Nat} (h : u < xs.length) (hx : xs[u]? = some (fillV xs ks u)) : mix xs ks u = mix xs ks (u + 1) := by
  apply List.ext_getElem?
  intro k
  by_cases hk : k < xs.length
  · rw [mix_get hk, mix_get hk]
    by_cases e : u = k
    · subst e; rw [if_neg (by omega), if_pos (by omega)]; exact hx
    · by_cases h1 : k < u
      · rw [if_pos h1, if_pos (by omega)]
      · rw [if_neg h1, if_neg (by omega)]
  · rw [List.getElem?_eq_none (by rw [mix_length (by omega)]; omega), List.getElem?_eq_none (by rw [mix_length (by omega)]; omega)]

def fillGate (xs : List (FV .f32)) (ks : List Bool) : Bool := gaugeB xs && decide (ks.length = xs.length)
def fillOk (xs : List (FV .f32)) (ks : List Bool) : Bool := fillGate xs ks && ks.any id && (fillL xs ks).all fun x => FV.isFin x

theorem any_last {ks : List Bool} : ks.any id = (lastK ks ks.length).isSome := by
  cases h : lastK ks ks.length with
  | none =>
    rw [Option.isSome_none, List.any_eq_false]
    intro x hx
    obtain ⟨j, hj, rfl⟩ := List.mem_iff_getElem.1 hx
    have := lastK_none' h j hj
    unfold kn at this
    rw [List.getD_eq_getElem?_getD, List.getElem?_eq_getElem hj] at this
    simpa using this
  | some a =>
    rw [Option.isSome_some, List.any_eq_true]
    obtain ⟨h1, h2, -⟩ := lastK_some' h
    unfold kn at h2
    rw [List.getD_eq_getElem?_getD, List.getElem?_eq_getElem h1] at h2
    exact ⟨_, List.getElem_mem h1, h2⟩

end Go.Proofs.Ytnpgpkbnfibkkaa
