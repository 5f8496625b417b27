/- Texts cut at a byte, in plain Lean: the pieces that a loop finds are those that strings.Split gives. -/
import Derived.Lib.SplitLaws
namespace Go.Cutting
open Go.Lib

/-- The pieces of a text between marks, 'cur' being what the first begins with. -/
def restL (c : UInt8) : List UInt8 → List UInt8 → List (List UInt8)
  | cur, [] => [cur]
  | cur, b :: l => if b = c then cur :: restL c [] l else restL c (cur ++ [b]) l

theorem restL_nil (c : UInt8) (cur : List UInt8) : restL c cur [] = [cur] := rfl
theorem restL_cons (c b : UInt8) (l cur : List UInt8) : restL c cur (b :: l) = if b = c then cur :: restL c [] l else restL c (cur ++ [b]) l := rfl
theorem restL_ne (c : UInt8) : ∀ (l cur : List UInt8), restL c cur l ≠ []
  | [], _ => by simp [restL]
  | b :: l, cur => by unfold restL; split; simp; exact restL_ne c l _

theorem restL_none {c : UInt8} : ∀ {l : List UInt8} (cur : List UInt8), c ∉ l → restL c cur l = [cur ++ l]
  | [], cur, _ => by simp [restL]
  | b :: l, cur, h => by
    unfold restL
    rw [if_neg (by intro e; subst e; exact h (List.mem_cons_self ..)), restL_none _ fun hm => h (List.mem_cons_of_mem _ hm)]
    simp

theorem restL_at {c : UInt8} {b : List UInt8} : ∀ {a : List UInt8} (cur : List UInt8), c ∉ a → restL c cur (a ++ c :: b) = (cur ++ a) :: restL c [] b
  | [], cur, _ => by rw [List.nil_append, restL_cons, if_pos rfl, List.append_nil]
  | x :: a, cur, h => by
    show restL c cur (x :: (a ++ c :: b)) = _
    rw [restL_cons, if_neg (by intro e; subst e; exact h (List.mem_cons_self ..)), restL_at _ fun hm => h (List.mem_cons_of_mem _ hm)]
    simp

theorem restL_length (c : UInt8) : ∀ (l cur : List UInt8), (restL c cur l).length ≤ l.length + 1
  | [], _ => by simp [restL]
  | b :: l, cur => by
    unfold restL; split
    · have := restL_length c l []; simp; omega
    · have := restL_length c l (cur ++ [b]); simp; omega

theorem occ_one {c : UInt8} {l : List UInt8} {j : Nat} : occAt l [c] j = true ↔ l[j]? = some c := by
  unfold occAt
  constructor
  · intro h
    cases hd : l.drop j with
    | nil => rw [hd] at h; simp at h
    | cons x t =>
      rw [hd] at h
      have : c = x := by simpa [List.isPrefixOf] using h
      subst this
      have := congrArg (fun l => l[0]?) hd
      simpa [List.getElem?_drop] using this
  · intro h
    obtain ⟨hj, hx⟩ := List.getElem?_eq_some_iff.1 h
    rw [List.drop_eq_getElem_cons hj, hx]
    simp [List.isPrefixOf]

theorem splitK_rest (c : UInt8) : ∀ (k : Nat) (l : List UInt8), count l [c] = k → splitK [c] 0 k l = restL c [] l := by
  intro k
  induction k with
  | zero =>
    intro l h
    rw [count_one] at h
    rw [restL_none _ (List.count_eq_zero.1 h)]
    rfl
  | succ k ih =>
    intro l h
    rcases index_spec l [c] with ⟨h1, h2⟩ | ⟨i, h1, h2, h3, h4⟩
    · rw [count_miss h1] at h; omega
    · have hi := occ_one.1 h3
      obtain ⟨hlt, hx⟩ := List.getElem?_eq_some_iff.1 hi
      have hs : l = l.take i ++ c :: l.drop (i + 1) := by
        rw [← hx, ← List.drop_eq_getElem_cons hlt, List.take_append_drop]
      have hn : c ∉ l.take i := by
        intro hm
        obtain ⟨j, hj, he⟩ := List.getElem_of_mem hm
        rw [List.length_take] at hj
        have : occAt l [c] j = true := occ_one.2 (by rw [List.getElem?_eq_getElem (by omega)]; rw [List.getElem_take] at he; rw [he])
        have h5 := h4 j (by omega)
        rw [this] at h5
        cases h5
      rw [count_hit (by simp) h1, List.length_singleton] at h
      unfold splitK
      rw [if_neg (by rw [h1, beq_iff_eq]; omega), h1]
      rw [show ((i : Int).toNat + 0) = i by simp, show ((i : Int).toNat + [c].length) = i + 1 by simp]
      rw [ih _ (by omega)]
      have e := restL_at (c := c) (b := l.drop (i + 1)) [] hn
      rw [← hs] at e
      rw [e, List.nil_append]

def strB (l : List UInt8) : ByteArray := ⟨l.toArray⟩
theorem strB_data (s : ByteArray) : strB s.data.toList = s := rfl

/-- The pieces, as texts. -/
def pieces (c : UInt8) (s : ByteArray) : List ByteArray := (restL c [] s.data.toList).map strB

theorem pieces_ne (c : UInt8) (s : ByteArray) : pieces c s ≠ [] := by unfold pieces; simp [restL_ne]
theorem pieces_length (c : UInt8) (s : ByteArray) : 1 ≤ (pieces c s).length ∧ (pieces c s).length ≤ s.size + 1 := by
  have h1 := restL_ne c s.data.toList []
  have h2 := restL_length c s.data.toList []
  have h3 : (restL c [] s.data.toList).length ≠ 0 := by simpa using h1
  unfold pieces
  rw [List.length_map]
  have : s.data.toList.length = s.size := (size_eq s).symm
  omega

theorem split_pieces (c : UInt8) (s : ByteArray) : splitB ⟨#[c]⟩ 0 (countB s ⟨#[c]⟩) s = pieces c s := by
  have h := splitB_data ⟨#[c]⟩ 0 (countB s ⟨#[c]⟩) s
  rw [show (ByteArray.mk #[c]).data.toList = [c] from rfl, splitK_rest c _ _ rfl] at h
  unfold pieces
  rw [← h, List.map_map]
  conv => lhs; rw [← List.map_id (splitB _ _ _ _)]
  rfl

/-- While the loop runs: what is done, what the next piece begins with, what is left. -/
def midL (c : UInt8) (l : List UInt8) (f i : Nat) : List (List UInt8) := restL c ((l.drop f).take (i - f)) (l.drop i)

theorem mid_start (c : UInt8) (l : List UInt8) : midL c l 0 0 = restL c [] l := by simp [midL]
theorem mid_hit {c : UInt8} {l : List UInt8} {f i : Nat} (h : l[i]? = some c) : midL c l f i = (l.drop f).take (i - f) :: midL c l (i + 1) (i + 1) := by
  obtain ⟨hlt, hx⟩ := List.getElem?_eq_some_iff.1 h
  unfold midL
  rw [List.drop_eq_getElem_cons hlt, hx, restL_cons, if_pos rfl, Nat.sub_self, List.take_zero]
theorem mid_miss {c : UInt8} {l : List UInt8} {f i : Nat} {x : UInt8} (hf : f ≤ i) (h : l[i]? = some x) (hne : x ≠ c) : midL c l f i = midL c l f (i + 1) := by
  obtain ⟨hlt, hx⟩ := List.getElem?_eq_some_iff.1 h
  unfold midL
  rw [List.drop_eq_getElem_cons hlt, hx, restL_cons, if_neg hne]
  congr 1
  rw [show i + 1 - f = (i - f) + 1 by omega]
  rw [List.take_add_one, List.getElem?_drop, show f + (i - f) = i by omega, h]
  rfl
theorem mid_end {c : UInt8} {l : List UInt8} {f : Nat} : midL c l f l.length = [(l.drop f).take (l.length - f)] := by
  unfold midL; simp [restL]

theorem extract_strB (s : ByteArray) (f i : Nat) : s.extract f i = strB ((s.data.toList.drop f).take (i - f)) := by
  have h : (s.extract f i).data.toList = (s.data.toList.drop f).take (i - f) := extract_data s f i
  unfold strB
  rw [← h]

/-- How many of the first n lines say no or what. -/
def isBad (x : ByteArray) : Bool := x.toList == [110, 111] || x.toList == [119, 104, 97, 116]
def bad (l : List ByteArray) : Nat := l.countP isBad
theorem bad_le (l : List ByteArray) : bad l ≤ l.length := List.countP_le_length
theorem take_snoc' {α : Type} {l : List α} {k : Nat} {x : α} (h : l[k]? = some x) : l.take (k + 1) = l.take k ++ [x] := by
  rw [List.take_add_one, h]; rfl
theorem bad_yes {l : List ByteArray} {k : Nat} {x : ByteArray} (h : l[k]? = some x) (hb : isBad x = true) : bad (l.take (k + 1)) = bad (l.take k) + 1 := by
  unfold bad; rw [take_snoc' h, List.countP_append]; simp [hb]
theorem bad_no {l : List ByteArray} {k : Nat} {x : ByteArray} (h : l[k]? = some x) (hb : isBad x = false) : bad (l.take (k + 1)) = bad (l.take k) := by
  unfold bad; rw [take_snoc' h, List.countP_append]; simp [hb]

end Go.Cutting
