/- The square root of a float32, as a float64, fits a float32 again. -/
import Derived.Test.YtnpgpkbnfibkkaaFi
namespace Go
namespace FV
open Go.RowKit

def sqrt (y : FV .f64) : FV .f64 :=
  match FloatKind.f64.format.sqrt y.b with
  | some r => of .f64 r
  | none => nan .f64

theorem sqrt_read {a b : Nat} (h : FloatKind.f64.format.read a = FloatKind.f64.format.read b) : FloatKind.f64.format.sqrt a = FloatKind.f64.format.sqrt b := by
  unfold Ieee.Format.sqrt; rw [h]

theorem root_nan {n : Nat} {a : Ieee.Datum} (h : a.isNaN = true) : a.root n = none := by cases a <;> first | rfl | cases h

theorem sqrt_of (b : Nat) : FloatKind.f64.format.sqrt (of .f64 b).b = FloatKind.f64.format.sqrt b := by
  rcases of_cases .f64 b with ⟨h, h'⟩ | h
  · unfold Ieee.Format.sqrt; rw [root_nan h, root_nan h']
  · exact sqrt_read h

theorem ext_sqrt {P : Program} (b : Nat) (w : World) : (Extern.MathSqrt.sqrt #[.float .f64 b]).run P w = (match FloatKind.f64.format.sqrt b with | some r => (pure (.float .f64 r) : Sem Value) | none => (fun bits => Value.float .f64 bits) <$> choose (.nanBits .f64 b b)).run P w := by
  cases h : FloatKind.f64.format.sqrt b with
  | some r => show (match FloatKind.f64.format.sqrt b with | some r => (pure (.float .f64 r) : Sem Value) | none => _).run P w = _; rw [h]
  | none => show (match FloatKind.f64.format.sqrt b with | some r => (pure (.float .f64 r) : Sem Value) | none => (do pure (.float .f64 (← choose (.nanBits .f64 b b))))).run P w = _; rw [h]; rfl

theorem run_sqrt {P : Program} (b : Nat) (w : World) : ∃ j n, (Extern.MathSqrt.sqrt #[.float .f64 b]).run P w = .ok (.float .f64 (fl (sqrt (of .f64 b)) j)) (w.drewN n) := by
  unfold sqrt
  rw [sqrt_of]
  cases h : FloatKind.f64.format.sqrt b with
  | some r =>
    have hn : (FloatKind.f64.format.read r).isNaN = false := map_write_not_nan h fun x hx => root_not_nan hx
    refine ⟨0, 0, ?_⟩
    show _ = Result.ok (Value.float .f64 (fl (of .f64 r) 0)) w
    rw [fl_num (by rw [isNaN_of]; exact hn), of_num hn, Nat.mod_eq_of_lt (FloatKind.f64.format.sqrt_lt h)]
    rw [ext_sqrt, h]
    rfl
  | none =>
    refine ⟨Question.cut (.nanBits .f64 b b) (w.tape w.drawn (.nanBits .f64 b b)), 1, ?_⟩
    show _ = Result.ok (Value.float .f64 (fl (nan .f64) _)) _
    rw [nan_word (cut_nan .f64 b b _).1 (cut_nan .f64 b b _).2]
    rw [ext_sqrt, h]
    rfl

theorem rootFrom_sq (n : Nat) : ∀ (todo root : Nat), root * root ≤ n → Ieee.Datum.rootFrom n todo root * Ieee.Datum.rootFrom n todo root ≤ n
  | 0, root, h => h
  | todo + 1, root, h => by
    unfold Ieee.Datum.rootFrom
    dsimp only
    split
    · exact rootFrom_sq n todo _ (by assumption)
    · exact rootFrom_sq n todo _ h

theorem le_of_sq {a b : Rat} (hb : 0 ≤ b) (h : a * a ≤ b * b) : a ≤ b := by
  apply Classical.byContradiction
  intro hn
  have h1 : b < a := by grind
  have h2 := Rat.mul_le_mul_of_nonneg_left (show b ≤ a by grind) hb
  have h3 := Rat.mul_lt_mul_of_pos_right h1 (show 0 < a by grind)
  grind

theorem p2_nat' (n : Nat) : p2 (n : Int) = ((2 ^ n : Nat) : Rat) := p2_nat n

theorem sqrt_fits {y : FV .f64} (hv : y.isFin = true → y.val ≤ p2 128) : fits .f32 (sqrt y) = true := by
  unfold sqrt
  cases h : FloatKind.f64.format.sqrt y.b with
  | none => decide
  | some r =>
    have hsq : (FloatKind.f64.format.read y.b).root (FloatKind.f64.format.fractionBits + 2) = some (FloatKind.f64.format.read y.b |>.root (FloatKind.f64.format.fractionBits + 2) |>.getD (.nan false 1)) := by
      cases hr : (FloatKind.f64.format.read y.b).root (FloatKind.f64.format.fractionBits + 2) with
      | none => unfold Ieee.Format.sqrt at h; rw [hr] at h; cases h
      | some d => rfl
    unfold Ieee.Format.sqrt at h
    have hd : FloatKind.f64.format.read y.b = y.datum := rfl
    rw [hd] at h
    cases hy : y.datum with
    | nan s f => rw [hy] at h; cases h
    | infinity s =>
      rw [hy] at h
      cases s
      · cases h; decide
      · cases h
    | number s m i =>
      have hfin : y.isFin = true := by unfold isFin; rw [hy]; rfl
      have hval := hv hfin
      rw [hy] at h
      simp only [Ieee.Datum.root] at h
      by_cases hm : m = 0
      · rw [if_pos hm] at h
        cases h
        refine (show Bd (of .f64 (FloatKind.f64.format.write (.number s m i))) 0 from ?_).fits (by decide)
        have hr := nearest_rounds .f64 s m i
        rw [hm] at hr ⊢
        refine hr.bd (by decide) ?_ ?_ <;> simp <;> grind
      · rw [if_neg hm] at h
        cases s
        · simp only [Bool.false_eq_true, if_false] at h
          generalize hmore0 : 2 * (FloatKind.f64.format.fractionBits + 2) - m.log2 = more0 at h
          generalize hmore : more0 + ((i - (more0 : Int)) % 2).toNat = more at h
          have hx : y.val = (m : Rat) * p2 i := by unfold val; rw [hy]; simp [dval, sg]
          rw [hx] at hval
          have hw := rootFrom_sq (m <<< more) ((m <<< more).log2 / 2 + 1) 0 (Nat.zero_le _)
          generalize Ieee.Datum.rootFrom (m <<< more) ((m <<< more).log2 / 2 + 1) 0 = whole at h hw
          -- the place
          have hpar : (i - (more : Int)) % 2 = 0 := by omega
          obtain ⟨e, he⟩ : ∃ e : Int, i - (more : Int) = e + e := ⟨(i - more) / 2, by omega⟩
          have hel : (i - (more : Int)) / 2 = e := by omega
          rw [hel] at h
          have hlog : p2 (i + m.log2) ≤ p2 128 := by
            have h1 := nat_le.2 (Nat.log2_self_le hm)
            rw [← p2_nat] at h1
            have h2 := (mul_p2_le (e := i)).2 h1
            rw [← p2_add] at h2
            rw [show i + (m.log2 : Int) = (m.log2 : Int) + i by omega]
            exact Rat.le_trans h2 hval
          have hil : i + m.log2 ≤ 128 := by
            apply Classical.byContradiction; intro hn
            have := p2_lt (show (128 : Int) < i + m.log2 by omega)
            grind
          have hfb : FloatKind.f64.format.fractionBits = 52 := rfl
          have hm108 : (108 : Int) - m.log2 ≤ more := by rw [hfb] at hmore0; omega
          have he10 : e ≤ 10 := by omega
          -- the root in units
          have h4 : ((whole : Rat) * p2 e) * ((whole : Rat) * p2 e) ≤ p2 64 * p2 64 := by
            have h1 := nat_le.2 hw
            rw [Nat.shiftLeft_eq, Rat.natCast_mul, Rat.natCast_mul, ← p2_nat] at h1
            have h2 := (mul_p2_le (e := e + e)).2 h1
            rw [← he] at h2
            have h3 : (m : Rat) * p2 (more : Int) * p2 (i - more) = (m : Rat) * p2 i := by
              rw [Rat.mul_assoc, ← p2_add]; congr 2; omega
            rw [h3, he, p2_add] at h2
            rw [← p2_add]
            have : (64 : Int) + 64 = 128 := rfl
            rw [this]
            grind
          have h5 := le_of_sq (Rat.le_of_lt (p2_pos 64)) h4
          have h6 : p2 e ≤ p2 10 := p2_le he10
          have hle : ∀ b : Bool, ((2 * whole + b.toNat : Nat) : Rat) * p2 (e - 1) ≤ p2 64 + p2 10 := by
            intro b
            have e1 : p2 e = 2 * p2 (e - 1) := by rw [← p2_succ]; congr 1; omega
            have e2 : ((2 * whole + b.toNat : Nat) : Rat) = 2 * (whole : Rat) + (b.toNat : Rat) := by rw [Rat.natCast_add, Rat.natCast_mul]; rfl
            have e3 : ((b.toNat : Nat) : Rat) ≤ 1 := by cases b <;> decide
            have e4 := p2_pos (e - 1)
            have e5 := Rat.mul_le_mul_of_nonneg_right e3 (Rat.le_of_lt e4)
            have e6 : (2 * (whole : Rat) + (b.toNat : Rat)) * p2 (e - 1) = (whole : Rat) * p2 e + (b.toNat : Rat) * p2 (e - 1) := by rw [e1]; grind
            have e7 : p2 (e - 1) ≤ p2 10 := p2_le (by omega)
            rw [e2, e6]
            clear hw hlog h4 hval hv hsq h hd hy
            grind
          have hr' : r = FloatKind.f64.format.write (Ieee.Datum.number false (2 * whole + (whole * whole != m <<< more).toNat) (e - 1)) := (Option.some.inj h).symm
          subst hr'
          generalize (whole * whole != m <<< more) = b
          have hr := nearest_rounds .f64 false (2 * whole + b.toNat) (e - 1)
          rw [show sg false = 1 from rfl, Rat.one_mul] at hr
          have hu := hle b
          have hl : 0 ≤ ((2 * whole + b.toNat : Nat) : Rat) * p2 (e - 1) := Rat.mul_nonneg Rat.natCast_nonneg (Rat.le_of_lt (p2_pos _))
          have htop : (of .f64 4899916394579099648).isFin = true ∧ (of .f64 4899916394579099648).val = p2 65 := ⟨by decide +kernel, by decide +kernel⟩
          have hz := zero_fin .f64
          have h65 : p2 64 + p2 10 ≤ p2 65 := by decide +kernel
          obtain ⟨f1, f2, f3⟩ := hr.between hz.1 htop.1 (by rw [hz.2]; exact hl) (by rw [htop.2]; exact Rat.le_trans hu h65)
          refine fits_of fun _ => ?_
          have h32 : (of .f32 1610612736).isFin = true ∧ (of .f32 1610612736).val = p2 65 := ⟨by decide +kernel, by decide +kernel⟩
          have hz32 := zero_fin .f32
          exact ((conv_rounds .f32 f1).between hz32.1 h32.1 (by rw [hz32.2, ← hz.2]; exact f2) (by rw [h32.2, ← htop.2]; exact f3)).1
        · exact absurd h (by simp)

theorem sqrt_fits_widen (x : FV .f32) : fits .f32 (sqrt (conv .f64 x)) = true := by
  refine sqrt_fits fun h => ?_
  have hx : x.isFin = true := by rw [← isFin_conv]; exact h
  obtain ⟨a, b⟩ := widen_exact hx
  rw [b]
  obtain ⟨s, r, hr, rfl, hv⟩ := fin_rung hx
  have h1 := rv_mono FloatKind.f32.format (show r ≤ 2139095040 by have : FloatKind.f32.format.infRung = 2139095040 := rfl; omega)
  have h2 : rv FloatKind.f32.format 2139095040 = p2 128 := by decide +kernel
  have h3 := rv_nonneg FloatKind.f32.format r
  rw [hv]
  cases s <;> simp only [sg, Bool.false_eq_true, if_false, if_true] <;> grind

end FV
end Go
