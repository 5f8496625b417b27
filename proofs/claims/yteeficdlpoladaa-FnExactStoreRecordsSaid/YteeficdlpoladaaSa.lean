/- What the bytes of records are, in plain Lean. -/
import Derived.Test.YteeficdlpoladaaRf
namespace Go.Proofs.Yteeficdlpoladaa
open Go.FV

def byteOf (n : Int) : UInt8 := UInt8.ofNat (n % 256).toNat
theorem byteOf_nat (n : Int) : ((byteOf n).toNat : Int) = n % 256 := by
  unfold byteOf
  rw [UInt8.toNat_ofNat']
  have h1 := Int.emod_nonneg n (show (256 : Int) ≠ 0 by decide)
  have h2 := Int.emod_lt_of_pos n (show (0 : Int) < 256 by decide)
  rw [Nat.mod_eq_of_lt (by omega)]
  omega
theorem byteOf_small {n : Int} (h0 : 0 ≤ n) (h1 : n < 256) : ((byteOf n).toNat : Int) = n := by rw [byteOf_nat]; omega

/-- A number in as many bytes as it takes. -/
def varint (n : Nat) : List UInt8 := if n < 128 then [byteOf n] else byteOf ((n : Int) % 128 + 128) :: varint (n / 128)
termination_by n
decreasing_by omega
theorem varint_last {n : Nat} (h : n < 128) : varint n = [byteOf n] := by unfold varint; rw [if_pos h]
theorem varint_more {n : Nat} (h : ¬ n < 128) : varint n = byteOf ((n : Int) % 128 + 128) :: varint (n / 128) := by
  conv => lhs; unfold varint
  rw [if_neg h]
theorem varint_len : ∀ (k n : Nat), n < 128 ^ (k + 1) → (varint n).length ≤ k + 1
  | 0, n, h => by rw [varint_last (by omega)]; simp
  | k + 1, n, h => by
    by_cases h1 : n < 128
    · rw [varint_last h1]; simp
    · rw [varint_more h1]
      have := varint_len k (n / 128) (by rw [Nat.div_lt_iff_lt_mul (by decide)]; rw [Nat.pow_succ] at h; exact h)
      simp; omega

/-- The difference of two words, its sign last. -/
def zig (bits before : Int) : Int :=
  if (bits - before) % 4294967296 ≥ 2147483648 then -2 * ((bits - before) % 4294967296 - 4294967296) - 1 else 2 * ((bits - before) % 4294967296)
theorem zig_bounds (bits before : Int) : 0 ≤ zig bits before ∧ zig bits before < 4294967296 := by unfold zig; split <;> omega

def packStep (s : List UInt8 × Int) (x : FV .f32) : List UInt8 × Int := (s.1 ++ varint (zig (x.b : Int) s.2).toNat, (x.b : Int))
def packS (xs : List (FV .f32)) : List UInt8 × Int := xs.foldl packStep ([], 0)
def packL (xs : List (FV .f32)) : List UInt8 := (packS xs).1
theorem packS_snoc {xs : List (FV .f32)} {n : Nat} {x : FV .f32} (h : xs[n]? = some x) : packS (xs.take (n + 1)) = packStep (packS (xs.take n)) x := by
  rw [take_snoc h, packS, List.foldl_append]; rfl
theorem packS_before : ∀ (xs : List (FV .f32)) (s : List UInt8 × Int), 0 ≤ s.2 → s.2 < 4294967296 → 0 ≤ (xs.foldl packStep s).2 ∧ (xs.foldl packStep s).2 < 4294967296
  | [], s, h0, h1 => ⟨h0, h1⟩
  | x :: xs, s, _, _ => by
    have hb : x.b < 4294967296 := x.bnd
    exact packS_before xs (packStep s x) (by unfold packStep; simp) (by unfold packStep; simp only []; omega)
theorem packS_bd (xs : List (FV .f32)) : 0 ≤ (packS xs).2 ∧ (packS xs).2 < 4294967296 := packS_before xs _ (by decide) (by decide)
theorem zig_len (bits before : Int) : (varint (zig bits before).toNat).length ≤ 5 := by
  have h := zig_bounds bits before
  exact varint_len 4 _ (by omega)
theorem packF_len : ∀ (xs : List (FV .f32)) (s : List UInt8 × Int), (xs.foldl packStep s).1.length ≤ s.1.length + 5 * xs.length
  | [], s => by simp
  | x :: xs, s => by
    have := packF_len xs (packStep s x)
    have h2 : (packStep s x).1.length ≤ s.1.length + 5 := by unfold packStep; simp only [List.length_append]; have := zig_len (x.b : Int) s.2; omega
    rw [List.foldl_cons, List.length_cons]
    omega
theorem packS_len (xs : List (FV .f32)) : (packS xs).1.length ≤ 5 * xs.length := by have := packF_len xs ([], 0); simpa [packS] using this
theorem packL_len (xs : List (FV .f32)) : (packL xs).length ≤ 5 * xs.length := packS_len xs

/-- A number's bytes, the least one first. -/
def leB : Nat → Int → List UInt8
  | 0, _ => []
  | k + 1, n => byteOf n :: leB k (n / 256)
theorem leB_length : ∀ (k : Nat) (n : Int), (leB k n).length = k
  | 0, _ => rfl
  | k + 1, n => by rw [leB, List.length_cons, leB_length k]

/-- A check number over bytes. -/
def checkStep (s : Int) (b : UInt8) : Int := (827 * s + (b.toNat : Int) + 127) % 65003
def checkL (s : Int) (l : List UInt8) : Int := l.foldl checkStep s
theorem checkL_snoc {l : List UInt8} {s : Int} {n : Nat} {b : UInt8} (h : l[n]? = some b) : checkL s (l.take (n + 1)) = checkStep (checkL s (l.take n)) b := by
  rw [take_snoc h, checkL, List.foldl_append]; rfl
theorem checkL_bd : ∀ (l : List UInt8) (s : Int), 0 ≤ s → s < 65003 → 0 ≤ checkL s l ∧ checkL s l < 65003
  | [], s, h0, h1 => ⟨h0, h1⟩
  | b :: l, s, h0, h1 => by
    have : 0 ≤ checkStep s b ∧ checkStep s b < 65003 := by unfold checkStep; omega
    exact checkL_bd l _ this.1 this.2

/-- A record's bytes. -/
def headB (r : Rec) : List UInt8 :=
  [82, 73, 86, 49] ++ ([byteOf (r.name.size : Int)] ++ (r.name.data.toList ++ (leB 4 r.start ++ (leB 2 r.step ++ (leB 2 ((packL r.vals).length : Int) ++ packL r.vals)))))
def storeB (r : Rec) : List UInt8 := headB r ++ leB 2 (checkL 0 (headB r))
def strOf (l : List UInt8) : ByteArray := ⟨l.toArray⟩
def storeAll (rs : List Rec) : ByteArray := rs.foldl (fun s r => s ++ strOf (storeB r)) ByteArray.empty
theorem storeAll_snoc {rs : List Rec} {n : Nat} {r : Rec} (h : rs[n]? = some r) : storeAll (rs.take (n + 1)) = storeAll (rs.take n) ++ strOf (storeB r) := by
  rw [take_snoc h, storeAll, List.foldl_append]; rfl

/-- A valid record. -/
def nameOk (s : ByteArray) : Bool := s.data.toList.all (fun b => decide (97 ≤ (b.toNat : Int)) && decide ((b.toNat : Int) ≤ 122)) && (decide (1 ≤ (s.size : Int)) && decide ((s.size : Int) ≤ 8))
def inB (n l h : Int) : Bool := decide (l ≤ n) && decide (n ≤ h)
def validR (r : Rec) : Bool := nameOk r.name && (inB r.start 0 4294967295 && (inB r.step 1 65535 && inB (r.vals.length : Int) 1 128))
theorem valid_parts {r : Rec} (h : validR r = true) : r.name.size ≤ 8 ∧ 0 ≤ r.start ∧ r.start ≤ 4294967295 ∧ 1 ≤ r.step ∧ r.step ≤ 65535 ∧ 1 ≤ r.vals.length ∧ r.vals.length ≤ 128 := by
  unfold validR nameOk inB at h
  simp only [Bool.and_eq_true, decide_eq_true_eq] at h
  omega
theorem headB_len {r : Rec} (h : validR r = true) : (headB r).length ≤ 661 := by
  obtain ⟨h1, -, -, -, -, -, h2⟩ := valid_parts h
  have h3 := packL_len r.vals
  have h4 : r.name.data.toList.length = r.name.size := by simp
  unfold headB
  simp only [List.length_append, List.length_cons, List.length_nil, leB_length, h4]
  omega
theorem storeB_len {r : Rec} (h : validR r = true) : (storeB r).length ≤ 663 := by
  have := headB_len h
  unfold storeB; rw [List.length_append, leB_length]; omega
theorem strOf_size (l : List UInt8) : (strOf l).size = l.length := by unfold strOf; simp [ByteArray.size]
theorem storeAll_len : ∀ {rs : List Rec} {n : Nat}, n ≤ rs.length → (rs.take n).all validR = true → (storeAll (rs.take n)).size ≤ 663 * n
  | rs, 0, _, _ => by simp [storeAll]
  | rs, n + 1, h, ha => by
    have hlt : n < rs.length := by omega
    have hg := List.getElem?_eq_getElem hlt
    rw [take_snoc hg, List.all_append] at ha
    simp only [Bool.and_eq_true, List.all_cons, List.all_nil, Bool.and_true] at ha
    rw [storeAll_snoc hg, ByteArray.size_append, strOf_size]
    have h1 := storeAll_len (rs := rs) (n := n) (by omega) ha.1
    have h2 := storeB_len ha.2
    omega
def okStore (rs : List Rec) : Bool := decide (rs.length ≤ 8) && rs.all validR
def storeRes (rs : List Rec) : ByteArray := if okStore rs = true then storeAll rs else ByteArray.empty
end Go.Proofs.Yteeficdlpoladaa
