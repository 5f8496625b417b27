/- Floats up to the bits of a not-a-number: what + - * /, the comparisons, the conversions and the bits of a number give; the walk's laws for them. -/
import Derived.WalkKit
import Derived.WalkLawsBesides
import Derived.Deep.Draws
namespace Go
open Go.RowKit

theorem read_mod (f : Ieee.Format) (b : Nat) : f.read (b % 2 ^ f.width) = f.read b := by
  have hw : 2 ^ f.width = 2 * f.signWeight := by
    unfold Ieee.Format.width Ieee.Format.signWeight
    rw [Nat.add_assoc, Nat.add_comm 1, Nat.pow_succ, Nat.mul_comm]
  have hs : 0 < f.signWeight := Nat.two_pow_pos _
  have h1 : b % 2 ^ f.width % f.signWeight = b % f.signWeight := by
    rw [hw, Nat.mul_comm 2, Nat.mod_mul_right_mod]
  have h2 : b % 2 ^ f.width / f.signWeight % 2 = b / f.signWeight % 2 := by
    rw [hw, Nat.mul_comm 2, Nat.mod_mul_right_div_self, Nat.mod_mod]
  unfold Ieee.Format.read
  simp only [h1, h2]

/-- The one not-a-number. -/
def FloatKind.qnan (k : FloatKind) : Nat := k.format.infRung + 2 ^ (k.format.fractionBits - 1)

theorem FloatKind.qnan_nan (k : FloatKind) : (k.format.read k.qnan).isNaN = true := by cases k <;> decide
theorem FloatKind.qnan_lt (k : FloatKind) : k.qnan < 2 ^ k.format.width := by cases k <;> decide

/-- A float, all not-a-numbers being one. -/
@[ext] structure FV (k : FloatKind) where
  b : Nat
  bnd : b < 2 ^ k.format.width
  can : (k.format.read b).isNaN = true → b = k.qnan

instance (k : FloatKind) : DecidableEq (FV k) := fun x y =>
  if h : x.b = y.b then isTrue (FV.ext h) else isFalse fun e => h (by rw [e])

namespace FV

def nan (k : FloatKind) : FV k := ⟨k.qnan, k.qnan_lt, fun _ => rfl⟩

/-- The float of some bits. -/
def of (k : FloatKind) (b : Nat) : FV k :=
  if h : (k.format.read b).isNaN = true then nan k else ⟨b % 2 ^ k.format.width, Nat.mod_lt _ (Nat.two_pow_pos _), fun e => absurd (by rw [read_mod] at e; exact e) h⟩

/-- The datum. -/
def datum {k : FloatKind} (x : FV k) : Ieee.Datum := k.format.read x.b
def isNaN {k : FloatKind} (x : FV k) : Bool := x.datum.isNaN

/-- A word of the float; which one of a not-a-number's, j says. -/
def fl {k : FloatKind} (x : FV k) (j : Nat) : Nat :=
  if x.isNaN = true then (if j < 2 ^ k.format.width ∧ (k.format.read j).isNaN = true then j else k.qnan) else x.b

theorem fl_num {k : FloatKind} {x : FV k} (h : x.isNaN = false) (j : Nat) : fl x j = x.b := by
  unfold fl; rw [h]; rfl

theorem fl_nan {k : FloatKind} {x : FV k} (h : x.isNaN = true) (j : Nat) : fl x j < 2 ^ k.format.width ∧ (k.format.read (fl x j)).isNaN = true := by
  unfold fl
  rw [if_pos h]
  split
  · assumption
  · exact ⟨k.qnan_lt, k.qnan_nan⟩

theorem eq_nan {k : FloatKind} {x : FV k} (h : x.isNaN = true) : x = nan k := FV.ext (x.can h)
theorem nan_isNaN (k : FloatKind) : (nan k).isNaN = true := k.qnan_nan

theorem fl_lt {k : FloatKind} (x : FV k) (j : Nat) : fl x j < 2 ^ k.format.width := by
  cases h : x.isNaN
  · rw [fl_num h]; exact x.bnd
  · exact (fl_nan h j).1

theorem fl_wf {k : FloatKind} (x : FV k) (j : Nat) : (Lit.float k (fl x j)).wf = true := wf_of_lt k _ (fl_lt x j)

theorem of_num {k : FloatKind} {b : Nat} (h : (k.format.read b).isNaN = false) : (of k b).b = b % 2 ^ k.format.width := by
  unfold of; rw [dif_neg (by rw [h]; simp)]

theorem of_nan {k : FloatKind} {b : Nat} (h : (k.format.read b).isNaN = true) : of k b = nan k := by
  unfold of; rw [dif_pos h]

theorem of_fl {k : FloatKind} (x : FV k) (j : Nat) : of k (fl x j) = x := by
  cases h : x.isNaN
  · rw [fl_num h]; exact FV.ext (by rw [of_num h]; exact Nat.mod_eq_of_lt x.bnd)
  · rw [of_nan (fl_nan h j).2, eq_nan h]

theorem datum_of {k : FloatKind} {b : Nat} (h : (k.format.read b).isNaN = false) : (of k b).datum = k.format.read b := by
  unfold datum; rw [of_num h]; exact read_mod _ _

theorem isNaN_of (k : FloatKind) (b : Nat) : (of k b).isNaN = (k.format.read b).isNaN := by
  cases h : (k.format.read b).isNaN
  · unfold isNaN; rw [datum_of h, h]
  · rw [of_nan h]; exact nan_isNaN k

theorem read_fl {k : FloatKind} {x : FV k} (h : x.isNaN = false) (j : Nat) : k.format.read (fl x j) = x.datum := by rw [fl_num h]; rfl
theorem read_fl_nan {k : FloatKind} (x : FV k) (j : Nat) : (k.format.read (fl x j)).isNaN = x.isNaN := by
  cases h : x.isNaN
  · rw [read_fl h]; exact h
  · exact (fl_nan h j).2

theorem fl_of {k : FloatKind} {b : Nat} (h : b < 2 ^ k.format.width) : fl (of k b) b = b := by
  unfold fl
  rw [isNaN_of]
  cases hn : (k.format.read b).isNaN
  · show (of k b).b = b
    rw [of_num hn]; exact Nat.mod_eq_of_lt h
  · rw [if_pos rfl, if_pos ⟨h, rfl⟩]

/-- Bits that fit are those of a float. -/
theorem word {k : FloatKind} {b : Nat} (h : (Lit.float k b).wf = true) : ∃ (x : FV k) (j : Nat), b = fl x j := by
  refine ⟨of k b, b, (fl_of ?_).symm⟩
  cases k
  · have : b < 4294967296 := by simpa [Lit.wf] using h
    exact this
  · have : b < 18446744073709551616 := by simpa [Lit.wf] using h
    exact this

/-! ### What is written is no not-a-number -/
theorem write_not_nan (f : Ieee.Format) (neg : Bool) (r : Nat) (h : r ≤ f.infRung) : (f.read (f.word neg r)).isNaN = false := by
  have hs : 0 < f.signWeight := Nat.two_pow_pos _
  have hi := f.infRung_lt
  have h1 : f.word neg r % f.signWeight = r := by
    unfold Ieee.Format.word
    split
    · rw [Nat.add_mod_left]; exact Nat.mod_eq_of_lt (by omega)
    · exact Nat.mod_eq_of_lt (by omega)
  unfold Ieee.Format.read
  simp only [h1]
  split
  · rfl
  · split
    · rfl
    · split
      · rfl
      · omega

theorem nearest_not_nan (f : Ieee.Format) (neg : Bool) (m : Nat) (p : Int) : (f.read (f.nearest neg m p)).isNaN = false := by
  unfold Ieee.Format.nearest
  split
  · exact write_not_nan f neg 0 (Nat.zero_le _)
  · exact write_not_nan f neg _ (Nat.min_le_right ..)

theorem write_number_not_nan (f : Ieee.Format) {d : Ieee.Datum} (h : d.isNaN = false) : (f.read (f.write d)).isNaN = false := by
  cases d with
  | number s m p => exact nearest_not_nan f s m p
  | infinity s => exact write_not_nan f s _ (Nat.le_refl _)
  | nan => cases h

theorem sum_not_nan {a b d : Ieee.Datum} (h : a.sum b = some d) : d.isNaN = false := by
  unfold Ieee.Datum.sum at h
  split at h <;> (try split at h) <;> (try cases h) <;> (try rfl) <;> (first | cases h; rfl | skip)

theorem product_not_nan {a b d : Ieee.Datum} (h : a.product b = some d) : d.isNaN = false := by
  unfold Ieee.Datum.product at h
  split at h <;> (try split at h) <;> (try cases h) <;> (try rfl) <;> (first | cases h; rfl | skip)

theorem quotient_not_nan {n : Nat} {a b d : Ieee.Datum} (h : a.quotient n b = some d) : d.isNaN = false := by
  unfold Ieee.Datum.quotient at h
  split at h <;> (try split at h) <;> (try split at h) <;> (try cases h) <;> (try rfl) <;> (first | cases h; rfl | skip)

theorem root_not_nan {n : Nat} {a d : Ieee.Datum} (h : a.root n = some d) : d.isNaN = false := by
  unfold Ieee.Datum.root at h
  split at h <;> (try split at h) <;> (try split at h) <;> (try cases h) <;> (try rfl) <;> (first | cases h; rfl | skip)

/-! ### The operations -/
variable {k : FloatKind}

/-- + - * /. -/
def bin (op : BinOp) (x y : FV k) : FV k :=
  match floatBits op k x.b y.b with
  | some r => of k r
  | none => nan k

def add (x y : FV k) : FV k := bin .add x y
def sub (x y : FV k) : FV k := bin .sub x y
def mul (x y : FV k) : FV k := bin .mul x y
def div (x y : FV k) : FV k := bin .quo x y

/-- How two stand to each other. -/
def cmp (x y : FV k) : Option Ordering := k.format.order x.b y.b

theorem sum_nan_left {a b : Ieee.Datum} (h : a.isNaN = true) : a.sum b = none := by
  cases a <;> first | cases h; done | rfl
theorem sum_nan_right {a b : Ieee.Datum} (h : b.isNaN = true) : a.sum b = none := by
  cases b <;> first | (cases h; done) | (cases a <;> rfl)
theorem product_nan_left {a b : Ieee.Datum} (h : a.isNaN = true) : a.product b = none := by
  cases a <;> first | cases h; done | rfl
theorem product_nan_right {a b : Ieee.Datum} (h : b.isNaN = true) : a.product b = none := by
  cases b <;> first | (cases h; done) | (cases a <;> rfl)
theorem quotient_nan_left {n : Nat} {a b : Ieee.Datum} (h : a.isNaN = true) : a.quotient n b = none := by
  cases a <;> first | cases h; done | rfl
theorem quotient_nan_right {n : Nat} {a b : Ieee.Datum} (h : b.isNaN = true) : a.quotient n b = none := by
  cases b <;> first | (cases h; done) | (cases a <;> rfl)
theorem order_nan_left {a b : Ieee.Datum} (h : a.isNaN = true) : a.order b = none := by
  cases a <;> first | cases h; done | rfl
theorem order_nan_right {a b : Ieee.Datum} (h : b.isNaN = true) : a.order b = none := by
  cases b <;> first | (cases h; done) | (cases a <;> rfl)
theorem opposite_nan {a : Ieee.Datum} : a.opposite.isNaN = a.isNaN := by cases a <;> rfl

theorem floatBits_nan_left {op : BinOp} {a b : Nat} (h : (k.format.read a).isNaN = true) : floatBits op k a b = none := by
  unfold floatBits
  split
  · exact congrArg (Option.map _) (sum_nan_left h)
  · exact congrArg (Option.map _) (sum_nan_left h)
  · exact congrArg (Option.map _) (product_nan_left h)
  · exact congrArg (Option.map _) (quotient_nan_left h)
  · rfl

theorem floatBits_nan_right {op : BinOp} {a b : Nat} (h : (k.format.read b).isNaN = true) : floatBits op k a b = none := by
  unfold floatBits
  split
  · exact congrArg (Option.map _) (sum_nan_right h)
  · exact congrArg (Option.map _) (sum_nan_right (by rw [opposite_nan]; exact h))
  · exact congrArg (Option.map _) (product_nan_right h)
  · exact congrArg (Option.map _) (quotient_nan_right h)
  · rfl

theorem floatBits_read {op : BinOp} {a a' b b' : Nat} (ha : k.format.read a = k.format.read a') (hb : k.format.read b = k.format.read b') : floatBits op k a b = floatBits op k a' b' := by
  unfold floatBits
  split
  · show ((k.format.read a).sum (k.format.read b)).map _ = _; rw [ha, hb]; rfl
  · show ((k.format.read a).sum (k.format.read b).opposite).map _ = _; rw [ha, hb]; rfl
  · show ((k.format.read a).product (k.format.read b)).map _ = _; rw [ha, hb]; rfl
  · show ((k.format.read a).quotient _ (k.format.read b)).map _ = _; rw [ha, hb]; rfl
  · rfl

/-- Bits and the float of them: the same datum, or both not-a-numbers. -/
theorem of_cases (k : FloatKind) (b : Nat) : ((k.format.read b).isNaN = true ∧ (k.format.read (of k b).b).isNaN = true) ∨ k.format.read (of k b).b = k.format.read b := by
  cases h : (k.format.read b).isNaN
  · exact .inr (datum_of h)
  · exact .inl ⟨rfl, by rw [of_nan h]; exact k.qnan_nan⟩

theorem floatBits_of (op : BinOp) (a b : Nat) : floatBits op k (of k a).b (of k b).b = floatBits op k a b := by
  rcases of_cases k a with ⟨h, h'⟩ | ha
  · rw [floatBits_nan_left h, floatBits_nan_left h']
  · rcases of_cases k b with ⟨h, h'⟩ | hb
    · rw [floatBits_nan_right h, floatBits_nan_right h']
    · exact floatBits_read ha hb

theorem map_write_not_nan {f : Ieee.Format} {d : Option Ieee.Datum} {r : Nat} (h : d.map f.write = some r) (hn : ∀ x, d = some x → x.isNaN = false) : (f.read r).isNaN = false := by
  cases d with
  | none => cases h
  | some x => cases h; exact write_number_not_nan f (hn x rfl)

theorem floatBits_not_nan {op : BinOp} {a b r : Nat} (h : floatBits op k a b = some r) : (k.format.read r).isNaN = false := by
  unfold floatBits at h
  split at h
  · exact map_write_not_nan h fun x hx => sum_not_nan hx
  · exact map_write_not_nan h fun x hx => sum_not_nan hx
  · exact map_write_not_nan h fun x hx => product_not_nan hx
  · exact map_write_not_nan h fun x hx => quotient_not_nan hx
  · cases h

theorem floatBits_lt {op : BinOp} {a b r : Nat} (h : floatBits op k a b = some r) : r < 2 ^ k.format.width := by
  unfold floatBits at h
  split at h
  · exact k.format.add_lt h
  · exact k.format.sub_lt h
  · exact k.format.mul_lt h
  · exact k.format.div_lt h
  · cases h

theorem bin_some {op : BinOp} {a b r : Nat} (h : floatBits op k a b = some r) (j : Nat) : fl (bin op (of k a) (of k b)) j = r := by
  unfold bin
  rw [floatBits_of, h]
  have hn := floatBits_not_nan h
  show fl (of k r) j = r
  rw [fl_num (by rw [isNaN_of]; exact hn), of_num hn]
  exact Nat.mod_eq_of_lt (floatBits_lt h)

theorem bin_none {op : BinOp} {a b : Nat} (h : floatBits op k a b = none) : bin op (of k a) (of k b) = nan k := by
  unfold bin
  rw [floatBits_of, h]

/-- A not-a-number's word is one of the one not-a-number. -/
theorem nan_word {j : Nat} (h1 : j < 2 ^ k.format.width) (h2 : (k.format.read j).isNaN = true) : fl (nan k) j = j := by
  unfold fl
  rw [if_pos (nan_isNaN k), if_pos ⟨h1, h2⟩]

theorem order_of (a b : Nat) : k.format.order a b = cmp (of k a) (of k b) := by
  show (k.format.read a).order (k.format.read b) = (k.format.read (of k a).b).order (k.format.read (of k b).b)
  rcases of_cases k a with ⟨h, h'⟩ | ha
  · rw [order_nan_left h, order_nan_left h']
  · rcases of_cases k b with ⟨h, h'⟩ | hb
    · rw [order_nan_right h, order_nan_right h']
    · rw [ha, hb]

attribute [irreducible] fl

end FV
end Go
