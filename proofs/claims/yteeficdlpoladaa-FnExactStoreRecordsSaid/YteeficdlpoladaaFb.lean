/- The walk's laws for floats: an operation gives the float that it names, in some word of it, and draws some answers. -/
import Derived.Test.YteeficdlpoladaaFa
namespace Go
open Go.RowKit

namespace FV
variable {k : FloatKind} {P : Program}

/-- The words that the tape may give for a not-a-number. -/
theorem cut_nan (k : FloatKind) (x y t : Nat) : Question.cut (.nanBits k x y) t < 2 ^ k.format.width ∧ (k.format.read (Question.cut (.nanBits k x y) t)).isNaN = true := by
  cases k
  · have h : ∀ s r, s < 2 → r < 2 ^ 23 - 1 → (s * 2 ^ 31 + 0x7f800000 + 1 + r) < 2 ^ 32 ∧ (Ieee.single.read (s * 2 ^ 31 + 0x7f800000 + 1 + r)).isNaN = true := by
      intro s r hs hr
      refine ⟨by omega, ?_⟩
      have h1 : (s * 2 ^ 31 + 0x7f800000 + 1 + r) % 2147483648 = 2139095041 + r := by omega
      unfold Ieee.Format.read
      simp only [show Ieee.single.signWeight = 2147483648 from rfl, show Ieee.single.binade = 8388608 from rfl, show Ieee.single.infRung = 2139095040 from rfl, h1]
      rw [if_neg (by omega), if_neg (by omega), if_neg (by omega)]
      rfl
    exact h _ _ (Nat.mod_lt _ (by decide)) (Nat.mod_lt _ (by decide))
  · have h : ∀ s r, s < 2 → r < 2 ^ 52 - 1 → (s * 2 ^ 63 + 0x7ff0000000000000 + 1 + r) < 2 ^ 64 ∧ (Ieee.double.read (s * 2 ^ 63 + 0x7ff0000000000000 + 1 + r)).isNaN = true := by
      intro s r hs hr
      refine ⟨by omega, ?_⟩
      have h1 : (s * 2 ^ 63 + 0x7ff0000000000000 + 1 + r) % 9223372036854775808 = 9218868437227405313 + r := by omega
      unfold Ieee.Format.read
      simp only [show Ieee.double.signWeight = 9223372036854775808 from rfl, show Ieee.double.binade = 4503599627370496 from rfl, show Ieee.double.infRung = 9218868437227405312 from rfl, h1]
      rw [if_neg (by omega), if_neg (by omega), if_neg (by omega)]
      rfl
    exact h _ _ (Nat.mod_lt _ (by decide)) (Nat.mod_lt _ (by decide))

theorem cut_conv (k : FloatKind) (b t : Nat) : Question.cut (.nanConv k b) t = Question.cut (.nanBits k 0 0) t := by cases k <;> rfl
theorem cut_minmax (k : FloatKind) (m : Bool) (x y t : Nat) : Question.cut (.nanMinMax k m x y) t = Question.cut (.nanBits k 0 0) t := by cases k <;> rfl

theorem run_arith (op : BinOp) (hop : op = .add ∨ op = .sub ∨ op = .mul ∨ op = .quo) (t : TypeId) (a b : Nat) (w : World) :
    ∃ j n, (binOp op t (.float k a) (.float k b)).run P w = .ok (.float k (fl (bin op (of k a) (of k b)) j)) (w.drewN n) := by
  cases h : floatBits op k a b with
  | some r => exact ⟨0, 0, by rw [run_float_arith w op t k a b r h, bin_some h]; rfl⟩
  | none =>
    refine ⟨Question.cut (.nanBits k a b) (w.tape w.drawn (.nanBits k a b)), 1, ?_⟩
    rw [bin_none h, nan_word (cut_nan k a b _).1 (cut_nan k a b _).2]
    have hx : (binOp op t (.float k a) (.float k b)) = Op.floatArith op k a b := by
      rcases hop with rfl | rfl | rfl | rfl <;> simp [binOp]
    rw [hx]
    unfold floatBits at h
    rcases hop with rfl | rfl | rfl | rfl <;> simp only at h <;> (simp [Op.floatArith, h, choose, Sem.run, Question.forced]; rfl)

variable {ops : Array Oper} {Q : Exit → Act → World → Prop} {a : Act} {w : World} {rest : List Oper}

/-- An operation that is wanted and yields a value. -/
theorem wp_yields {o : Oper} {v : Value} {w' : World} (hw : Region.wanted o (yielded ops a.tmps) = true) (hr : (execOp a.eval o).run P w = .ok (.value v) w')
    (h : wpList P ops Q rest (a.put o.dst v) w') : wpList P ops Q (o :: rest) a w := by
  refine wpList_step fun K hK => ?_
  rw [if_pos hw]
  show o.upon P a K Q ((execOp a.eval o).run P w)
  rw [hr]
  exact hK _ _ h

theorem exec_binOp {dst : Option Tmp} {op : BinOp} {x y : Operand} {t t' ty : TypeId} {pos : String} {after : Array Edge} {g : Option (Nat × Bool)} {p q v : Value} {w' : World}
    (hx : a.eval x = p) (hy : a.eval y = q) (hg : eqGuard op t x y p q = pure ()) (hr : (binOp op t p q).run P w = .ok v w') :
    (execOp a.eval ⟨dst, .binOp op t x y t', ty, pos, after, g⟩).run P w = .ok (.value v) w' := by
  have h0 : execOp a.eval ⟨dst, .binOp op t x y t', ty, pos, after, g⟩ = (do let v ← (do eqGuard op t x y (a.eval x) (a.eval y); binOp op t (a.eval x) (a.eval y)); pure (Next.value v)) := rfl
  rw [h0, hx, hy, hg]
  simp [hr]

def arith : BinOp → Bool
  | .add | .sub | .mul | .quo => true
  | _ => false
theorem arith_cases {op : BinOp} (h : arith op = true) : op = .add ∨ op = .sub ∨ op = .mul ∨ op = .quo := by cases op <;> simp_all [arith]

/-- THE WALK's LAW: + - * /. -/
theorem wp_arith {m : Nat} {dst : Option Tmp} {op : BinOp} {x y : Operand} {t t' ty : TypeId} {pos : String} {after : Array Edge} {g : Option (Nat × Bool)} {p q : Nat}
    (harith : arith op = true)
    (hw : Region.wanted ⟨dst, .binOp op t x y t', ty, pos, after, g⟩ (yielded ops a.tmps) = true)
    (hx : a.eval x = .float k p) (hy : a.eval y = .float k q)
    (h : ∀ j n, wpList P ops Q rest (a.put dst (.float k (fl (bin op (of k p) (of k q)) j))) (w.drewN n)) :
    wpList P ops Q (⟨dst, .binOp op t x y t', ty, pos, after, g⟩ :: rest) a (w.drewN m) := by
  have hop := arith_cases harith
  obtain ⟨j, n, hr⟩ := run_arith (P := P) op hop t p q (w.drewN m)
  rw [World.drewN_drewN] at hr
  exact wp_yields hw (exec_binOp hx hy (by rcases hop with rfl | rfl | rfl | rfl <;> rfl) hr) (h j (m + n))

/-! ### Conversions between the kinds -/

/-- The nearest number of another kind. -/
def conv (k' : FloatKind) (x : FV k) : FV k' := if x.isNaN = true then nan k' else of k' (k'.format.write x.datum)
/-- Not too great for the other kind. -/
def fits (k' : FloatKind) (x : FV k) : Bool := x.datum.isInfinity || x.isNaN || !(k'.format.read (k'.format.write x.datum)).isInfinity

theorem run_conv (P : Program) (src dst : TypeId) (k' : FloatKind) (b : Nat) (w : World) (hne : k ≠ k') (hs : (P.underlying src).isSome = true) (hd : P.underlying dst = some (.float k')) (hf : fits k' (of k b) = true) :
    ∃ j n, (convert src dst (.float k b)).run P w = .ok (.float k' (fl (conv k' (of k b)) j)) (w.drewN n) := by
  obtain ⟨u, hs'⟩ := Option.isSome_iff_exists.1 hs
  have hc : ∀ w, (convert src dst (.float k b)).run P w = (Conv.floatToFloat k b k').run P w := by
    intro w; cases u <;> simp [convert, run_underlying hs', run_underlying hd]
  rw [hc]
  unfold Conv.floatToFloat
  rw [if_neg hne]
  show ∃ j n, Sem.run P (match k.format.read b with | .nan _ _ => _ | .infinity s => _ | .number s m e => _) w = _
  cases hr : k.format.read b with
  | nan s f =>
    have hn : (k.format.read b).isNaN = true := by rw [hr]; rfl
    refine ⟨Question.cut (.nanConv k' b) (w.tape w.drawn (.nanConv k' b)), 1, ?_⟩
    have h1 := cut_nan k' 0 0 (w.tape w.drawn (.nanConv k' b))
    rw [← cut_conv k' b] at h1
    rw [conv, if_pos (by rw [isNaN_of]; exact hn), nan_word h1.1 h1.2]
    simp [choose, Sem.run, Question.forced]; rfl
  | infinity s =>
    have hn : (k.format.read b).isNaN = false := by rw [hr]; rfl
    refine ⟨0, 0, ?_⟩
    rw [conv, if_neg (by rw [isNaN_of, hn]; simp), datum_of hn, hr, fl_num (by rw [isNaN_of]; exact write_number_not_nan _ rfl), of_num (write_number_not_nan _ rfl), Nat.mod_eq_of_lt (k'.format.write_lt _)]
    rfl
  | number s m e =>
    have hn : (k.format.read b).isNaN = false := by rw [hr]; rfl
    refine ⟨0, 0, ?_⟩
    rw [conv, if_neg (by rw [isNaN_of, hn]; simp), datum_of hn, hr, fl_num (by rw [isNaN_of]; exact write_number_not_nan _ rfl), of_num (write_number_not_nan _ rfl), Nat.mod_eq_of_lt (k'.format.write_lt _)]
    have hf' : (k'.decode (k'.encode (.number s m e))).isInfinity = false := by
      unfold fits at hf
      rw [datum_of hn, isNaN_of, hn, hr] at hf
      rcases (by simpa using hf : (Ieee.Datum.number s m e).isInfinity = true ∨ (k'.format.read (k'.format.write (Ieee.Datum.number s m e))).isInfinity = false) with h | h
      · cases h
      · exact h
    show Sem.run P (if (k'.decode (k'.encode (.number s m e))).isInfinity = true then _ else _) w = _
    rw [hf']
    rfl

/-- THE WALK's LAW: a conversion. -/
theorem wp_conv {m : Nat} {dst : Option Tmp} {x : Operand} {t t' ty : TypeId} {pos : String} {after : Array Edge} {g : Option (Nat × Bool)} {p : Nat} (k' : FloatKind)
    (hw : Region.wanted ⟨dst, .convert t t' x, ty, pos, after, g⟩ (yielded ops a.tmps) = true)
    (hx : a.eval x = .float k p) (hs : (P.underlying t).isSome = true) (hd : P.underlying t' = some (.float k')) (hne : k ≠ k') (hf : fits k' (of k p) = true)
    (h : ∀ j n, wpList P ops Q rest (a.put dst (.float k' (fl (conv k' (of k p)) j))) (w.drewN n)) :
    wpList P ops Q (⟨dst, .convert t t' x, ty, pos, after, g⟩ :: rest) a (w.drewN m) := by
  obtain ⟨j, n, hr⟩ := run_conv P t t' k' p (w.drewN m) hne hs hd hf
  rw [World.drewN_drewN] at hr
  refine wp_yields hw ?_ (h j (m + n))
  have h0 : execOp a.eval ⟨dst, .convert t t' x, ty, pos, after, g⟩ = (do let v ← convert t t' (a.eval x); pure (Next.value v)) := rfl
  rw [h0, hx]
  simp [hr]

/-! ### The opposite -/
def neg (x : FV k) : FV k := if x.isNaN = true then nan k else of k (Op.negFloat k x.b)

theorem read_neg (k : FloatKind) (b : Nat) : k.format.read (Op.negFloat k b) = (k.format.read b).opposite := by
  have hx : ∀ e : Nat, (b ^^^ 2 ^ e) % 2 ^ e = b % 2 ^ e ∧ ((b ^^^ 2 ^ e) / 2 ^ e % 2 == 1) = !(b / 2 ^ e % 2 == 1) := by
    intro e
    constructor
    · apply Nat.eq_of_testBit_eq
      intro i
      rw [Nat.testBit_mod_two_pow, Nat.testBit_mod_two_pow, Nat.testBit_xor, Nat.testBit_two_pow]
      by_cases hi : i < e
      · simp [hi, show e ≠ i by omega]
      · simp [hi]
    · have h1 : ∀ n : Nat, (n / 2 ^ e % 2 == 1) = n.testBit e := by
        intro n
        rw [Nat.testBit_eq_decide_div_mod_eq]
        rfl
      rw [h1, h1, Nat.testBit_xor, Nat.testBit_two_pow]
      simp
  have hs : k.format.signWeight = 2 ^ (k.format.exponentBits + k.format.fractionBits) := rfl
  unfold Op.negFloat Ieee.Format.read
  simp only [hs, (hx (k.format.exponentBits + k.format.fractionBits)).1, (hx (k.format.exponentBits + k.format.fractionBits)).2]
  split
  · rfl
  · split
    · rfl
    · split <;> rfl

theorem neg_lt {k : FloatKind} {b : Nat} (h : b < 2 ^ k.format.width) : Op.negFloat k b < 2 ^ k.format.width := by
  have : k.format.exponentBits + k.format.fractionBits < k.format.width := by unfold Ieee.Format.width; omega
  exact Nat.xor_lt_two_pow h (Nat.pow_lt_pow_right (by decide) this)

theorem negFloat_fl (x : FV k) (j : Nat) : ∃ j', Op.negFloat k (fl x j) = fl (neg x) j' := by
  refine ⟨Op.negFloat k (fl x j), ?_⟩
  cases h : x.isNaN
  · rw [fl_num h]
    have hn : (k.format.read (Op.negFloat k x.b)).isNaN = false := by rw [read_neg, opposite_nan]; exact h
    rw [neg, if_neg (by rw [h]; simp), fl_num (by rw [isNaN_of]; exact hn), of_num hn, Nat.mod_eq_of_lt (neg_lt x.bnd)]
  · rw [neg, if_pos h, nan_word (neg_lt (fl_lt _ _)) (by rw [read_neg, opposite_nan]; exact (fl_nan h j).2)]

/-- THE WALK's LAW: the opposite. -/
theorem wp_neg {dst : Option Tmp} {x : Operand} {t ty : TypeId} {pos : String} {after : Array Edge} {g : Option (Nat × Bool)} {v : FV k} {i : Nat}
    (hw : Region.wanted ⟨dst, .unOp .neg t x, ty, pos, after, g⟩ (yielded ops a.tmps) = true)
    (hx : a.eval x = .float k (fl v i))
    (h : ∀ j, wpList P ops Q rest (a.put dst (.float k (fl (neg v) j))) w) :
    wpList P ops Q (⟨dst, .unOp .neg t x, ty, pos, after, g⟩ :: rest) a w := by
  obtain ⟨j, hj⟩ := negFloat_fl v i
  refine wp_yields hw ?_ (h j)
  have h0 : execOp a.eval ⟨dst, .unOp .neg t x, ty, pos, after, g⟩ = (do let v ← Op.unary .neg (a.eval x); pure (Next.value v)) := rfl
  rw [h0, hx, ← hj]
  rfl

/-! ### 'bin' by its names -/
theorem bin_add (x y : FV k) : bin .add x y = add x y := rfl
theorem bin_sub (x y : FV k) : bin .sub x y = sub x y := rfl
theorem bin_mul (x y : FV k) : bin .mul x y = mul x y := rfl
theorem bin_quo (x y : FV k) : bin .quo x y = div x y := rfl

/-! ### Comparisons: the walk runs them by itself; what they give is said of the floats -/
attribute [go_sem] order_of of_fl

def lt (x y : FV k) : Bool := cmp x y == some .lt
def gt (x y : FV k) : Bool := cmp x y == some .gt
def eq (x y : FV k) : Bool := cmp x y == some .eq
def le (x y : FV k) : Bool := cmp x y == some .lt || cmp x y == some .eq
def ge (x y : FV k) : Bool := cmp x y == some .gt || cmp x y == some .eq

end FV

/-- A float stored. -/
@[go_sem] theorem run_store_float (P : Program) (w : World) (a : Addr) (m : Mode) (k : FloatKind) (b : Nat) : (store a (.float k b) m).run P w = stored P w a (.float k b) m := run_store P w a _ m rfl

/-- Draws stand outermost. -/
@[go_sem] theorem alloc_drewN (w : World) (m : Nat) (o : Obj) : (w.drewN m).alloc o = (w.alloc o).drewN m := rfl
@[go_sem] theorem setCell_drewN (w : World) (m : Nat) (a : Addr) (v : Value) : (w.drewN m).setCell a v = (w.setCell a v).drewN m := rfl

/-! ### Contracts -/
/-- It returns this float (in some word of it), and draws some answers. -/
def RetF {k : FloatKind} (v : FV k) (w : World) (e : Ending) (w' : World) : Prop := ∃ j n, e = .returned (.float k (v.fl j)) ∧ w' = w.drewN n
def RetFB {k : FloatKind} (v : FV k) (b : Bool) (w : World) (e : Ending) (w' : World) : Prop := ∃ j n, e = .returned (.tuple #[.float k (v.fl j), .bool b]) ∧ w' = w.drewN n
def RetFFB {k : FloatKind} (u v : FV k) (b : Bool) (w : World) (e : Ending) (w' : World) : Prop := ∃ i j n, e = .returned (.tuple #[.float k (u.fl i), .float k (v.fl j), .bool b]) ∧ w' = w.drewN n
def RetB (b : Bool) (w : World) (e : Ending) (w' : World) : Prop := ∃ n, e = .returned (.bool b) ∧ w' = w.drewN n

end Go
