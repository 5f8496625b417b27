/- The walks: rows of floats copied and compared. -/
import Derived.Test.YteeficdlpoladaaProg
import Derived.Test.YteeficdlpoladaaFh
import Derived.Test.YteeficdlpoladaaFi
import Derived.Lib.Hide
import Derived.OwnWalk
import Derived.Below
namespace Go.Proofs.Yteeficdlpoladaa
open Go.RowKit Go.FV

theorem fl_lit {k : FloatKind} {b : Nat} (h : b < 2 ^ k.format.width) (hn : (k.format.read b).isNaN = false) (j : Nat) : fl (of k b) j = b := by
  rw [fl_num (by rw [isNaN_of]; exact hn), of_num hn, Nat.mod_eq_of_lt h]

def Row32 (w : World) (b off : Nat) (xs : List (FV .f32)) : Prop := ∀ k x, xs[k]? = some x → ∃ j, w.cell? ⟨b, off + k, none⟩ = some (.float .f32 (x.fl j))

theorem sameFloat_any (x : FV .f64) (i j : Nat) (w : World) (m : Nat) : Calls Try.prog 46 #[.float .f64 (x.fl i), .float .f64 (x.fl j)] (w.drewN m) (RetB true w) := by
  cases hn : x.isNaN
  · have g1 : FV.cmp x x = some .eq := cmp_self hn
    cases h0 : (FV.cmp x (of .f64 0) == some .eq)
    · go_enter Try.func46, Try.ntmps46
      go_wp2_with (refine wp_arith rfl rfl rfl rfl ?_; intro _ _)
      go_ret
      exact ⟨_, rfl, rfl⟩
    · go_enter Try.func46, Try.ntmps46
      go_wp2_with (refine wp_arith rfl rfl rfl rfl ?_; intro _ _)
      go_ret
      exact ⟨_, rfl, rfl⟩
  · have g1 : (FV.cmp x x != some .eq) = true := by rw [isNaN_eq]; exact hn
    go_enter Try.func46, Try.ntmps46
    go_wp2_with (refine wp_arith rfl rfl rfl rfl ?_; intro _ _)
    go_ret
    exact ⟨_, rfl, rfl⟩

/-- A law returns true, and nothing that was there has turned. -/
def Holds (w : World) (e : Ending) (w' : World) : Prop := e = .returned (.bool true) ∧ Below w.heap.size w w'

theorem below_drawn {B : Nat} {w w1 : World} (h : Below B w w1) (n : Nat) : Below B w (w1.drewN n) := h.trans ⟨rfl, rfl, rfl, Nat.le_refl _, fun _ _ => rfl⟩

theorem info48 : (Try.prog.info? 48).map (fun i => (i.zero, i.size, i.bytes)) = some (some (.float .f32 0), 1, 4) := by kernel_rfl

theorem make32 (n : Nat) (hn : n ≤ 1048576) (W : World) : (Instr.makeSlice 32 (.int .i64 (n : Int)) (.int .i64 (n : Int))).run Try.prog W =
    .ok (.slice (some ⟨W.heap.size, 0, none⟩) n n) (W.alloc (.cells (Array.replicate n (.float .f32 0)) 48)) := by
  obtain ⟨i, hi, hz, hs, hb⟩ := info_parts info48
  have h := run_make (P := Try.prog) W 32 48 i _ Try.underlying32 hi hz .i64 .i64 (n : Int) (n : Int) (by omega) (by omega) (by rw [hb]; omega) (by omega)
  rw [h, hs]
  have e : madeCells (Value.float .f32 0).cells ((n : Int).toNat * 1) = Array.replicate n (.float .f32 0) := by
    have := toList_madeCells_one (.float .f32 0) n
    rw [Int.toNat_natCast, Nat.mul_one]
    apply Array.toList_inj.1
    rw [Array.toList_replicate]
    exact this
  rw [e]; rfl

/-- A row of the call's own. -/
structure Own32 (B : Nat) (w : World) (b : Nat) (xs : List (FV .f32)) : Prop where
  new : B ≤ b
  lt : b < w.heap.size
  row : Row32 w b 0 xs
  free : ∀ o, w.frozen? ⟨b, o, none⟩ = false

def NewRow (xs : List (FV .f32)) (w : World) (e : Ending) (w' : World) : Prop :=
  ∃ b w1 n, e = .returned (.slice (some ⟨b, 0, none⟩) xs.length xs.length) ∧ w' = w1.drewN n ∧ Below w.heap.size w w1 ∧ Own32 w.heap.size w1 b xs

/-- A slice of floats that came in: where it has elements, they lie in a row. -/
def In32 (w : World) (p : Option Addr) (xs : List (FV .f32)) : Prop := xs ≠ [] → ∃ b off, p = some ⟨b, off, none⟩ ∧ b < w.heap.size ∧ Row32 w b off xs

theorem Row32.below {w w1 : World} {B b off : Nat} {xs : List (FV .f32)} (h : Row32 w b off xs) (hb : Below B w w1) (hB : b < B) : Row32 w1 b off xs := by
  intro k x hx
  obtain ⟨j, hj⟩ := h k x hx
  exact ⟨j, by rw [hb.cell (p := ⟨b, off + k, none⟩) hB]; exact hj⟩

theorem In32.below {w w1 : World} {p : Option Addr} {xs : List (FV .f32)} (h : In32 w p xs) (hb : Below w.heap.size w w1) : In32 w1 p xs := by
  intro hne
  obtain ⟨b, off, hp, hlt, hr⟩ := h hne
  exact ⟨b, off, hp, Nat.lt_of_lt_of_le hlt hb.size, hr.below hb hlt⟩

theorem Own32.in32 {B : Nat} {w : World} {b : Nat} {xs : List (FV .f32)} (h : Own32 B w b xs) : In32 w (some ⟨b, 0, none⟩) xs := fun _ => ⟨b, 0, rfl, h.lt, h.row⟩

set_option maxHeartbeats 400000 in
theorem toFloat32S_any (p : Option Addr) (c : Nat) (xs : List (FV .f32)) (w : World) (m : Nat) (hin : In32 w p xs) (hl : xs.length ≤ 1048576) :
    Calls Try.prog 27 #[.slice p xs.length c] (w.drewN m) (NewRow xs w) := by
  have hmk := make32 xs.length hl
  have HI := Lib.hid hin
  clear hin
  go_enter Try.func27, Try.ntmps27
  go_wp2_with (fail)
  clear hmk
  go_loopw [4] (fun k wr => ∃ (n : Nat) (arr : Array Value) (q : Nat), n ≤ xs.length ∧ k = .int .i64 n ∧ wr = (w.alloc (.cells arr 48)).drewN q ∧ arr.size = xs.length ∧
      (∀ (j : Nat) x, j < n → xs[j]? = some x → ∃ i, arr[j]? = some (.float .f32 (x.fl i)))) (fun k _ => xs.length - (intOf k).toNat)
  case atStart => exact ⟨0, Array.replicate xs.length (.float .f32 0), _, Nat.zero_le _, rfl, rfl, by simp, fun j x hj => by omega⟩
  case round =>
    obtain ⟨n, arr, q, hn, rfl, rfl, hs, ha⟩ := hrel
    have HA := Lib.hid ha
    have HS := Lib.hid hs
    clear ha hs
    by_cases hlt : n < xs.length
    · obtain ⟨b, off, rfl, hb, hrow⟩ := HI.out (by intro e; rw [e] at hlt; simp at hlt)
      obtain ⟨j, hcell⟩ := hrow n xs[n] (List.getElem?_eq_getElem hlt)
      have HR := Lib.hid hrow
      clear hrow
      have hg := Lib.hid (List.getElem?_eq_getElem hlt)
      generalize xs[n] = x at *
      have hc1 : ((w.alloc (.cells arr 48)).drewN q).cell? ⟨b, off + n, none⟩ = some (.float .f32 (x.fl j)) := by
        rw [World.cell?_drewN, World.cell?_alloc_past _ _ _ hb]; exact hcell
      have hsz : n < arr.size := by have := HS.out; omega
      obtain ⟨u, hu⟩ : ∃ u, arr[n]? = some u := ⟨arr[n], Array.getElem?_eq_getElem hsz⟩
      have hc2 : ((w.alloc (.cells arr 48)).drewN q).cell? ⟨w.heap.size, n, none⟩ = some u := by
        rw [World.cell?_drewN, World.cell?_alloc_new]; exact hu
      go_wp2_with (fail)
      go_roundw
      case rel =>
        refine ⟨n + 1, _, _, by omega, by go_num, rfl, by rw [Array.size_setIfInBounds]; exact HS.out, fun i y hi hy => ?_⟩
        rw [Array.getElem?_setIfInBounds]
        by_cases hin : n = i
        · subst hin
          rw [hg.out] at hy; cases hy
          exact ⟨j, by rw [if_pos rfl, if_pos hsz]⟩
        · rw [if_neg hin]
          exact HA.out i y (by omega) hy
      case measure => simp [intOf]; omega
    · obtain rfl : n = xs.length := by omega
      go_wp2_with (fail)
      go_ret
      refine ⟨_, _, _, rfl, rfl, (Below.refl _ _).alloc (Nat.le_refl _) _, Nat.le_refl _, by simp, ?_, fun o => World.frozen?_alloc_new w arr 48 o⟩
      intro i y hy
      obtain ⟨j, hj⟩ := HA.out i y (List.getElem?_eq_some_iff.1 hy).1 hy
      exact ⟨j, by rw [World.cell?_alloc_new, Nat.zero_add]; exact hj⟩

section
variable {P : Program} {o : Oper} {a : Act} {w : World} {K : Act → World → Prop} {Q : Exit → Act → World → Prop}
theorem op_value {v : Value} {w' : World} (hr : (execOp a.eval o).run P w = .ok (.value v) w') (hk : K (a.put o.dst v) w') : o.wp P a w K Q := by
  unfold Oper.wp; rw [hr]; exact hk
theorem op_call {f : FuncId} {args : Array Value} {v : Value} (hr : (execOp a.eval o).run P w = .ok (.enter f args) w) (hc : Calls P f args w fun e w' => e = .returned v ∧ K (a.put o.dst v) w') : o.wp P a w K Q := by
  unfold Oper.wp; rw [hr]
  exact hc.mono fun e w' ⟨he, hk⟩ => by subst he; exact hk
end

theorem eval_tmp (a : Act) (t : Nat) : a.eval (.tmp t) = a.tmps.getD t undef := rfl

theorem exec_indexAddr {a : Act} {w : World} {dst : Option Tmp} {s i ty : Nat} {pos : String} {after : Array Edge} {g : Option (Nat × Bool)} {b off len c n : Nat}
    (hs : a.tmps.getD s undef = .slice (some ⟨b, off, none⟩) len c) (hi : a.tmps.getD i undef = .int .i64 n) (hlt : n < len) :
    (execOp a.eval ⟨dst, .indexAddr 32 (.tmp s) (.tmp i), ty, pos, after, g⟩).run Try.prog w = .ok (.value (.pointer (some ⟨b, off + n, none⟩))) w := by
  have h0 : execOp a.eval ⟨dst, .indexAddr 32 (.tmp s) (.tmp i), ty, pos, after, g⟩ = (do let v ← Instr.indexAt 32 (a.eval (.tmp s)) (a.eval (.tmp i)); pure (Next.value v)) := rfl
  have hl : (n : Int) < (len : Int) := by omega
  rw [h0, eval_tmp, eval_tmp, hs, hi]
  simp [go_sem, hl]

theorem exec_load48 {a : Act} {w : World} {dst : Option Tmp} {s ty : Nat} {pos : String} {after : Array Edge} {g : Option (Nat × Bool)} {b off q : Nat} {v : Value}
    (hs : a.tmps.getD s undef = .pointer (some ⟨b, off, none⟩)) (hc : w.cell? ⟨b, off, none⟩ = some v) :
    (execOp a.eval ⟨dst, .load 48 (.tmp s), ty, pos, after, g⟩).run Try.prog (w.drewN q) = .ok (.value v) (w.drewN q) := by
  have h0 : execOp a.eval ⟨dst, .load 48 (.tmp s), ty, pos, after, g⟩ = (do let v ← Instr.loadAt 48 (a.eval (.tmp s)); pure (Next.value v)) := rfl
  rw [h0, eval_tmp, hs]
  simp [go_sem, hc]

theorem exec_widen {a : Act} {w : World} {dst : Option Tmp} {s ty : Nat} {pos : String} {after : Array Edge} {g : Option (Nat × Bool)} {x : FV .f32} {i q : Nat}
    (hs : a.tmps.getD s undef = .float .f32 (x.fl i)) :
    ∃ j n, (execOp a.eval ⟨dst, .convert 48 64 (.tmp s), ty, pos, after, g⟩).run Try.prog (w.drewN q) = .ok (.value (.float .f64 ((conv .f64 x).fl j))) (w.drewN n) := by
  obtain ⟨j, n, hr⟩ := run_conv Try.prog 48 64 .f64 (x.fl i) (w.drewN q) (k := .f32) (by decide) (by rw [Try.underlying48]; rfl) Try.underlying64 (by rw [of_fl]; exact fits_widen x)
  refine ⟨j, q + n, ?_⟩
  have h0 : execOp a.eval ⟨dst, .convert 48 64 (.tmp s), ty, pos, after, g⟩ = (do let v ← convert 48 64 (a.eval (.tmp s)); pure (Next.value v)) := rfl
  rw [h0, eval_tmp, hs, ← World.drewN_drewN]
  rw [of_fl] at hr
  simp [hr]

theorem exec_not {a : Act} {w : World} {dst : Option Tmp} {s ty ty' : Nat} {pos : String} {after : Array Edge} {g : Option (Nat × Bool)} {b : Bool}
    (hs : a.tmps.getD s undef = .bool b) :
    (execOp a.eval ⟨dst, .unOp .not ty' (.tmp s), ty, pos, after, g⟩).run Try.prog w = .ok (.value (.bool (!b))) w := by
  have h0 : execOp a.eval ⟨dst, .unOp .not ty' (.tmp s), ty, pos, after, g⟩ = (do let v ← Op.unary .not (a.eval (.tmp s)); pure (Next.value v)) := rfl
  rw [h0, eval_tmp, hs]
  rfl

theorem exec_call46 {a : Act} {w : World} {dst : Option Tmp} {s t ty : Nat} {pos : String} {after : Array Edge} {g : Option (Nat × Bool)} {u v : Value} {ts : Array TypeId}
    (hs : a.tmps.getD s undef = u) (ht : a.tmps.getD t undef = v) :
    (execOp a.eval ⟨dst, .call { callee := .value (.func 46), args := #[.tmp s, .tmp t], argTypes := ts }, ty, pos, after, g⟩).run Try.prog w = .ok (.enter 46 #[u, v]) w := by
  have h0 : execOp a.eval ⟨dst, .call { callee := .value (.func 46), args := #[.tmp s, .tmp t], argTypes := ts }, ty, pos, after, g⟩ = (do let d ← resolve a.eval { callee := .value (.func 46), args := #[.tmp s, .tmp t], argTypes := ts } ty; invoke d.target d.args) := rfl
  rw [h0]
  simp [resolve, Deferred.ofValue, invoke, Act.eval, hs, ht, callFunc, Try.func46, Try.f46, go_sem]

theorem op_of {P : Program} {o : Oper} {a : Act} {w : World} {K : Act → World → Prop} {Q : Exit → Act → World → Prop} (h : ∃ v w', (execOp a.eval o).run P w = .ok (.value v) w' ∧ K (a.put o.dst v) w') : o.wp P a w K Q := by
  obtain ⟨v, w', hr, hk⟩ := h
  exact op_value hr hk

section
attribute [local irreducible] Oper.wp
theorem op_widen {a : Act} {w : World} {dst : Option Tmp} {t t' s ty : Nat} {pos : String} {after : Array Edge} {g : Option (Nat × Bool)} {x : FV .f32} {i q : Nat} {K : Act → World → Prop} {Q : Exit → Act → World → Prop}
    (ht : t = 48) (ht' : t' = 64) (hs : a.tmps.getD s undef = .float .f32 (x.fl i)) (hk : ∀ j n, K (a.put dst (.float .f64 ((conv .f64 x).fl j))) (w.drewN n)) :
    Oper.wp Try.prog ⟨dst, .convert t t' (.tmp s), ty, pos, after, g⟩ a (w.drewN q) K Q := by
  subst ht; subst ht'
  exact op_of (let ⟨j, n, hr⟩ := @exec_widen a w dst s ty pos after g x i q hs; ⟨_, _, hr, hk j n⟩)

theorem op_same {a : Act} {w : World} {dst : Option Tmp} {f s t ty : Nat} {pos : String} {after : Array Edge} {g : Option (Nat × Bool)} {x : FV .f64} {i j q : Nat} {ts : Array TypeId} {K : Act → World → Prop} {Q : Exit → Act → World → Prop}
    (hf : f = 46) (hs : a.tmps.getD s undef = .float .f64 (x.fl i)) (ht : a.tmps.getD t undef = .float .f64 (x.fl j)) (hk : ∀ n, K (a.put dst (.bool true)) (w.drewN n)) :
    Oper.wp Try.prog ⟨dst, .call { callee := .value (.func f), args := #[.tmp s, .tmp t], argTypes := ts }, ty, pos, after, g⟩ a (w.drewN q) K Q := by
  subst hf
  exact op_call (v := .bool true) (@exec_call46 a (w.drewN q) dst s t ty pos after g _ _ ts hs ht) ((sameFloat_any x i j w q).mono fun e w' ⟨n, he, hw⟩ => ⟨he, by rw [hw]; exact hk n⟩)

set_option maxHeartbeats 1000000 in
theorem eqFloat32S_any (p p' : Option Addr) (c c' : Nat) (xs : List (FV .f32)) (w : World) (m : Nat) (hin : In32 w p xs) (hin' : In32 w p' xs) (hl : xs.length ≤ 1048576) :
    Calls Try.prog 30 #[.slice p xs.length c, .slice p' xs.length c'] (w.drewN m) (RetB true w) := by
  have HI := Lib.hid hin
  have HI' := Lib.hid hin'
  clear hin hin'
  go_enter Try.func30, Try.ntmps30
  go_wp2_with (fail)
  go_loopw [5] (fun k wr => ∃ (n : Nat) (q : Nat), n ≤ xs.length ∧ k = .int .i64 n ∧ wr = w.drewN q) (fun k _ => xs.length - (intOf k).toNat)
  case atStart => exact ⟨0, _, Nat.zero_le _, rfl, rfl⟩
  case round =>
    obtain ⟨n, q, hn, rfl, rfl⟩ := hrel
    by_cases hlt : n < xs.length
    · obtain ⟨b, off, rfl, hb, hrow⟩ := HI.out (by intro e; rw [e] at hlt; simp at hlt)
      obtain ⟨b', off', rfl, hb', hrow'⟩ := HI'.out (by intro e; rw [e] at hlt; simp at hlt)
      obtain ⟨j, hcell⟩ := hrow n xs[n] (List.getElem?_eq_getElem hlt)
      obtain ⟨j', hcell'⟩ := hrow' n xs[n] (List.getElem?_eq_getElem hlt)
      clear hrow hrow'
      generalize xs[n] = x at *
      go_wp2_with (fail)
      refine wp_region_inv (fun i v => match i with
        | 0 => v = .slice (some ⟨b, off, none⟩) xs.length c
        | 1 => v = .int .i64 n
        | 2 => v = .pointer (some ⟨b, off + n, none⟩)
        | 3 => v = .float .f32 (x.fl j)
        | 4 => ∃ i, v = .float .f64 ((conv .f64 x).fl i)
        | 5 => v = .slice (some ⟨b', off', none⟩) xs.length c'
        | 6 => v = .int .i64 n
        | 7 => v = .pointer (some ⟨b', off' + n, none⟩)
        | 8 => v = .float .f32 (x.fl j')
        | 9 => ∃ i, v = .float .f64 ((conv .f64 x).fl i)
        | 10 => v = .bool true
        | _ => v = .bool false) (fun w' => ∃ n, w' = w.drewN n) (by kernel_rfl) (by kernel_rfl) ⟨q + 1, rfl⟩ ?_ ?_
      · intro i o a w1 ho hC hd hoff hdep
        obtain ⟨q1, rfl⟩ := hC
        have h0 := hoff 0 (by decide)
        have h1 := hoff 1 (by decide)
        have h5 := hoff 5 (by decide)
        match i, ho, hdep with
        | 0, ho, hdep => cases ho; exact op_value rfl ⟨_, h0, rfl, _, rfl⟩
        | 1, ho, hdep => cases ho; exact op_value rfl ⟨_, h5, rfl, _, rfl⟩
        | 2, ho, hdep =>
          cases ho
          have d0 : a.tmps.getD 17 undef = .slice (some ⟨b, off, none⟩) xs.length c := hdep ⟨0, .data⟩ (by simp) rfl
          have d1 : a.tmps.getD 18 undef = .int .i64 n := hdep ⟨1, .data⟩ (by simp) rfl
          exact op_value (exec_indexAddr d0 d1 hlt) ⟨_, rfl, rfl, _, rfl⟩
        | 3, ho, hdep =>
          cases ho
          have d0 : a.tmps.getD 19 undef = .pointer (some ⟨b, off + n, none⟩) := hdep ⟨2, .data⟩ (by simp) rfl
          exact op_value (exec_load48 d0 hcell) ⟨_, rfl, rfl, _, rfl⟩
        | 4, ho, hdep =>
          cases ho
          have d0 : a.tmps.getD 20 undef = .float .f32 (x.fl j) := hdep ⟨3, .data⟩ (by simp) rfl
          exact op_widen rfl rfl d0 fun j1 n1 => ⟨_, ⟨j1, rfl⟩, rfl, n1, rfl⟩
        | 5, ho, hdep => cases ho; exact op_value rfl ⟨_, h1, rfl, _, rfl⟩
        | 6, ho, hdep => cases ho; exact op_value rfl ⟨_, h5, rfl, _, rfl⟩
        | 7, ho, hdep =>
          cases ho
          have d0 : a.tmps.getD 22 undef = .slice (some ⟨b', off', none⟩) xs.length c' := hdep ⟨5, .data⟩ (by simp) rfl
          have d1 : a.tmps.getD 23 undef = .int .i64 n := hdep ⟨6, .data⟩ (by simp) rfl
          exact op_value (exec_indexAddr d0 d1 hlt) ⟨_, rfl, rfl, _, rfl⟩
        | 8, ho, hdep =>
          cases ho
          have d0 : a.tmps.getD 24 undef = .pointer (some ⟨b', off' + n, none⟩) := hdep ⟨7, .data⟩ (by simp) rfl
          exact op_value (exec_load48 d0 hcell') ⟨_, rfl, rfl, _, rfl⟩
        | 9, ho, hdep =>
          cases ho
          have d0 : a.tmps.getD 25 undef = .float .f32 (x.fl j') := hdep ⟨8, .data⟩ (by simp) rfl
          exact op_widen rfl rfl d0 fun j1 n1 => ⟨_, ⟨j1, rfl⟩, rfl, n1, rfl⟩
        | 10, ho, hdep =>
          cases ho
          obtain ⟨j1, d0⟩ : ∃ i, a.tmps.getD 21 undef = .float .f64 ((conv .f64 x).fl i) := hdep ⟨4, .data⟩ (by simp) rfl
          obtain ⟨j2, d1⟩ : ∃ i, a.tmps.getD 26 undef = .float .f64 ((conv .f64 x).fl i) := hdep ⟨9, .data⟩ (by simp) rfl
          exact op_same rfl d0 d1 fun n1 => ⟨_, rfl, rfl, n1, rfl⟩
        | 11, ho, hdep =>
          cases ho
          have d0 : a.tmps.getD 27 undef = .bool true := hdep ⟨10, .data⟩ (by simp) rfl
          exact op_value (exec_not d0) ⟨_, rfl, rfl, _, rfl⟩
        | i + 12, ho, _ => cases ho
      · intro v hv w' hC
        obtain ⟨q1, rfl⟩ := hC
        have e11 : v 11 = .bool false := hv 11 (by decide)
        simp only [putAll, dstAt, List.size_toArray, List.length_cons, List.length_nil, Nat.reduceAdd, List.range_succ, List.range_zero, List.nil_append, List.cons_append, List.foldl_cons, List.foldl_nil, Act.put, List.getElem?_toArray, List.getElem?_cons_succ, List.getElem?_cons_zero, Option.bind_some, Option.getD_some, List.setIfInBounds_toArray, List.set_cons_succ, List.set_cons_zero, e11]
        clear hv e11
        go_wp2_with (fail)
        go_roundw
        case rel => exact ⟨n + 1, _, by omega, by go_num, rfl⟩
        case measure => simp [intOf]; omega
    · obtain rfl : n = xs.length := by omega
      go_wp2_with (fail)
      go_ret
      exact ⟨_, rfl, rfl⟩

end

end Go.Proofs.Yteeficdlpoladaa
