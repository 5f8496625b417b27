/- The walks: rows of bytes grown; numbers and rows of floats as bytes. -/
import Derived.Test.YteeficdlpoladaaSc
import Derived.Laws.OwnMore
namespace Go.Proofs.Yteeficdlpoladaa
open Go.RowKit Go.FV

theorem info5 : (Try.prog.info? 5).map (fun i => (i.zero, i.size, i.bytes)) = some (some (.int .u8 0), 1, 1) := by kernel_rfl
theorem cell_new1 (w : World) (v : Value) (t : TypeId) : (w.alloc (.cells #[v] t)).cell? ⟨w.heap.size, 0, none⟩ = some v := by
  rw [World.cell?_alloc_new]; rfl

def bv (b : UInt8) : Value := .int .u8 (b.toNat : Int)
/-- A row of bytes of the call's own (past B), while it grows; what lay ahead of B is as in w. -/
structure GrowB (B : Nat) (w W : World) (xs : List UInt8) (v : Value) : Prop where
  below : Below B w W
  base : B ≤ W.heap.size
  row : W.ownsRow B 5 1 v xs.length (xs.map bv)

theorem GrowB.start (w : World) : GrowB w.heap.size w (w.alloc (.cells #[] 5)) [] (.slice (some ⟨w.heap.size, 0, none⟩) 0 0) :=
  ⟨(Below.refl _ _).alloc (Nat.le_refl _) _, by simp, World.ownsRow_lit w #[] 0 (Nat.le_refl _) (Nat.zero_le _) rfl⟩
theorem GrowB.again {B : Nat} {w W : World} {xs : List UInt8} {v : Value} (h : GrowB B w W xs v) : GrowB B W W xs v := ⟨Below.refl _ _, h.base, h.row⟩
theorem GrowB.after {B : Nat} {w W W2 : World} {xs : List UInt8} {v : Value} (h : GrowB B W W2 xs v) (hb : Below B w W) : GrowB B w W2 xs v := ⟨hb.trans h.below, h.base, h.row⟩

/-- The bytes can be read. -/
def ReadB (W : World) (a : Option Addr) (xs : List UInt8) : Prop := xs ≠ [] → ∃ g o, a = some ⟨g, o, none⟩ ∧ g < W.heap.size ∧ ∀ (k : Nat) x, xs[k]? = some x → W.cell? ⟨g, o + k, none⟩ = some (bv x)
theorem ReadB.below {w w1 : World} {a : Option Addr} {xs : List UInt8} (h : ReadB w a xs) (hb : Below w.heap.size w w1) : ReadB w1 a xs := fun hne => by
  obtain ⟨g, o, ha, hg, hr⟩ := h hne
  exact ⟨g, o, ha, Nat.lt_of_lt_of_le hg hb.size, fun k x hk => by rw [hb.cell (p := ⟨g, o + k, none⟩) hg]; exact hr k x hk⟩
theorem GrowB.read {B : Nat} {w W : World} {xs : List UInt8} {v : Value} (h : GrowB B w W xs v) : ∃ a c, v = .slice a xs.length c ∧ ReadB W a xs ∧ (∀ g o s, a = some ⟨g, o, s⟩ → B ≤ g) := by
  rcases h.row.2 with ⟨rfl, hn⟩ | ⟨g, cap, cur, rfl, hbg, hg, hnc, hcm, hcs, htake⟩
  · rw [List.length_eq_zero_iff.1 hn]
    exact ⟨none, 0, rfl, fun h => absurd rfl h, fun g o s h => by cases h⟩
  · refine ⟨_, cap, rfl, fun _ => ⟨g, 0, rfl, (Array.getElem?_eq_some_iff.1 hg).1, fun k x hx => ?_⟩, fun g' o s e => by cases e; exact hbg⟩
    have := h.row.cells rfl k (bv x) (by rw [List.getElem?_map, hx]; rfl)
    rw [Addr.add_lit] at this
    exact this

section
attribute [local irreducible] Oper.wp
theorem op_byte {dst : Option Tmp} {s x ty : Nat} {pos : String} {after : Array Edge} {g : Option (Nat × Bool)} {a : Act} {w W W1 : World} {q B : Nat} {K : Act → World → Prop} {Q : Exit → Act → World → Prop} {xs : List UInt8} {X : Int} {v : Value}
    (hl : xs.length ≤ 1048577) (h0 : 0 ≤ X) (h1 : X < 256) (ho : GrowB B w W xs v) (hW1 : W1 = W.alloc (.cells #[.int .u8 X] 5)) (hs : a.tmps.getD s undef = v) (hx : a.tmps.getD x undef = .slice (some ⟨W.heap.size, 0, none⟩) 1 1)
    (h : ∀ v' W2, GrowB B w W2 (xs ++ [byteOf X]) v' → K (a.put dst v') W2) :
    Oper.wp Try.prog ⟨dst, .call { callee := .builtin .append, args := #[.tmp s, .tmp x], argTypes := #[54, 54] }, ty, pos, after, g⟩ a (W1.drewN q) K Q := by
  obtain ⟨ti, hi, hz, hsz, hby⟩ := info_parts info5
  have hown := ho.row
  have hbv : bv (byteOf X) = .int .u8 X := by unfold bv; rw [byteOf_small h0 h1]
  subst hW1
  have hb : Below B W ((W.alloc (.cells #[.int .u8 X] 5)).drewN q) := below_drawn ((Below.refl _ _).alloc ho.base _) q
  refine wp_append_own _ (.tmp s) (.tmp x) 54 rfl B 5 ti (.int .u8 0) 1 1 Try.underlying54 hi hz hsz hby rfl (by decide) v xs.length (xs.map bv) hs ?_ ⟨W.heap.size, 0, none⟩ 1 1 [.int .u8 X] hx rfl ?_ ?_ ?_ ?_ ?_ ?_
  · exact (hown.alloc _)
  · intro j u hu
    match j, hu with
    | 0, hu => cases hu; exact cell_new1 W _ 5
  · intro u hu; rw [List.mem_singleton.1 hu]; rfl
  · unfold maxLen; omega
  · omega
  · exact Nat.le_trans ho.base hb.size
  · intro v' w' h2 h3 _
    refine h v' w' ⟨(ho.below.trans hb).grown h3 (Nat.le_trans ho.base hb.size) fun k hk => (hown.lt k hk).1, Nat.le_trans ho.base (Nat.le_trans hb.size h3.size), ?_⟩
    rw [List.length_append, List.map_append, List.map_singleton, hbv]
    exact h2
end
theorem wpl_byte {ops : Array Oper} {rest : List Oper} {dst : Option Tmp} {s x ty : Nat} {pos : String} {after : Array Edge} {a : Act} {w W W1 : World} {q B : Nat} {Q : Exit → Act → World → Prop} {xs : List UInt8} {X : Int} {v : Value}
    (hl : xs.length ≤ 1048577) (h0 : 0 ≤ X) (h1 : X < 256) (ho : GrowB B w W xs v) (hW1 : W1 = W.alloc (.cells #[.int .u8 X] 5)) (hs : a.tmps.getD s undef = v) (hx : a.tmps.getD x undef = .slice (some ⟨W.heap.size, 0, none⟩) 1 1)
    (h : ∀ v' W2, GrowB B w W2 (xs ++ [byteOf X]) v' → wpList Try.prog ops Q rest (a.put dst v') W2) :
    wpList Try.prog ops Q (⟨dst, .call { callee := .builtin .append, args := #[.tmp s, .tmp x], argTypes := #[54, 54] }, ty, pos, after, none⟩ :: rest) a (W1.drewN q) :=
  wpList_plain rfl fun _ hK => op_byte hl h0 h1 ho hW1 hs hx fun v' W2 h2 => hK _ _ (h v' W2 h2)

/-- Bytes appended to a row of the caller's own. -/
def MoreB (B : Nat) (xs : List UInt8) (W : World) (e : Ending) (w' : World) : Prop := ∃ v' W' q, e = .returned v' ∧ w' = W'.drewN q ∧ GrowB B W W' xs v'

theorem byteOf_eq {a b : Int} (h : a % 256 = b % 256) : byteOf a = byteOf b := by unfold byteOf; rw [h]

def varRest (xs ys : List UInt8) (n0 n : Nat) : Prop := xs ++ varint n0 = ys ++ varint n

set_option maxHeartbeats 400000 in
set_option maxRecDepth 20000 in
theorem l07Bytes_any (B : Nat) (v : Value) (xs : List UInt8) (n0 : Nat) (W : World) (m : Nat) (hg : GrowB B W W xs v) (hl : xs.length ≤ 1048000) (hn : n0 < 4294967296) :
    Calls Try.prog 47 #[v, .int .i64 (n0 : Int)] (W.drewN m) (MoreB B (xs ++ varint n0) W) := by
  have HG := Lib.hid hg
  have HN := Lib.hid hn
  clear hg hn
  go_enter Try.func47, Try.ntmps47
  go_wp2_with (fail)
  go_loopw [0, 1] (fun v k wr => ∃ (n q : Nat) (W2 : World) (ys : List UInt8), k = .int .i64 n ∧ wr = W2.drewN q ∧ n ≤ n0 ∧ Hid (GrowB B W W2 ys v) ∧ Hid (varRest xs ys n0 n)) (fun _ k _ => (intOf k).toNat)
  case atStart => exact ⟨n0, m, W, xs, rfl, rfl, Nat.le_refl _, HG.out, rfl⟩
  case round =>
    obtain ⟨n, q, W2, ys, rfl, rfl, hn1, HG2, HR⟩ := hrel
    have hlen : ys.length ≤ 1048100 := by
      have h1 := congrArg List.length HR.out
      rw [List.length_append, List.length_append] at h1
      have h2 := varint_len 4 n0 (Nat.lt_trans HN.out (by decide))
      omega
    have hn2 : (n : Int) ≤ 4294967295 := by have := HN.out; omega
    by_cases hlt : (n : Int) < 128
    · go_wp2_with (at_builtin; refine wpl_byte (by omega) (by omega) (by omega) HG2.out rfl rfl rfl ?_; intro v' W3 HG3)
      go_ret
      have e : xs ++ varint n0 = ys ++ [byteOf (n : Int)] := by have h := HR.out; unfold varRest at h; rw [h, varint_last (by omega)]
      exact ⟨v', W3, 0, rfl, rfl, by rw [e]; exact HG3⟩
    · go_wp2_with (at_builtin; refine wpl_byte (by omega) (by omega) (by omega) HG2.out rfl rfl rfl ?_; intro v' W3 HG3)
      go_roundw
      case rel =>
        refine ⟨n / 128, 0, W3, _, by go_num, rfl, by omega, HG3, ?_⟩
        have h := HR.out
        show varRest _ _ _ _
        unfold varRest at h ⊢
        rw [h, varint_more (by omega), List.append_assoc]; rfl
      case measure => simp [intOf]; omega

theorem l07Bytes_int (B : Nat) (v : Value) (xs : List UInt8) (z : Int) (W : World) (m : Nat) (hg : GrowB B W W xs v) (hl : xs.length ≤ 1048000) (h0 : 0 ≤ z) (h1 : z < 4294967296) :
    Calls Try.prog 47 #[v, .int .i64 z] (W.drewN m) (MoreB B (xs ++ varint z.toNat) W) := by
  have h := l07Bytes_any B v xs z.toNat W m hg hl (by omega)
  rw [Int.toNat_of_nonneg h0] at h
  exact h

/-- The last number's words, in the walk's spelling. -/
theorem zig_hi {bits before : Int} (h : 2147483648 ≤ (bits - before) % 4294967296) : zig bits before = -2 * ((bits - before) % 4294967296 - 4294967296) - 1 := by unfold zig; rw [if_pos h]
theorem zig_lo {bits before : Int} (h : ¬ 2147483648 ≤ (bits - before) % 4294967296) : zig bits before = 2 * ((bits - before) % 4294967296) := by unfold zig; rw [if_neg h]

def NewStr (l : List UInt8) (w : World) (e : Ending) (w' : World) : Prop := ∃ W q, e = .returned (.string (strOf l)) ∧ w' = W.drewN q ∧ Below w.heap.size w W

theorem conv_back {w : World} {a : Option Addr} {xs : List UInt8} {c : Nat} (h : ReadB w a xs) : (convert 54 9 (.slice a xs.length c)).run Try.prog w = .ok (.string (strOf xs)) w := by
  by_cases hne : xs = []
  · subst hne
    rw [run_convert_bytes_string w 54 9 5 a _ c Try.underlying54 Try.underlying5 Try.underlying9]
    rcases a with _ | a
    · simp [Conv.bytesToString]; rfl
    · exact run_bytesToString w a 0 c [] (by simp [loadCells]; rfl)
  · obtain ⟨g, o, rfl, hg, hr⟩ := h hne
    have := run_convert_bytes_back w 54 9 5 ⟨g, o, none⟩ c xs Try.underlying54 Try.underlying5 Try.underlying9 (fun j hj => by
      have := hr j xs[j] (List.getElem?_eq_getElem hj)
      rw [Addr.add_lit]; exact this)
    exact this

set_option maxHeartbeats 400000 in
set_option maxRecDepth 20000 in
theorem l07Pack_any (p : Option Addr) (c : Nat) (xs : List (FV .f32)) (w : World) (m : Nat) (hin : In32 w p xs) (hl : xs.length ≤ 128) :
    Calls Try.prog 34 #[.slice p xs.length c] (w.drewN m) (NewStr (packL xs) w) := by
  have HI := Lib.hid hin
  clear hin
  go_enter Try.func34, Try.ntmps34
  go_wp2_with (fail)
  go_loopw [3, 4, 12] (fun v bf k wr => ∃ (n q : Nat) (W : World), k = .int .i64 n ∧ wr = W.drewN q ∧ n ≤ xs.length ∧ bf = .int .i64 (packS (xs.take n)).2 ∧ Hid (GrowB w.heap.size w W (packS (xs.take n)).1 v)) (fun _ _ k _ => xs.length - (intOf k).toNat)
  case atStart => exact ⟨0, _, _, rfl, rfl, Nat.zero_le _, rfl, GrowB.start w⟩
  case round =>
    obtain ⟨n, q, W, rfl, rfl, hn, rfl, HG⟩ := hrel
    have hlen := packS_len (xs.take n)
    have hlen2 : (xs.take n).length ≤ n := List.length_take_le _ _
    have hbd := packS_bd (xs.take n)
    by_cases hlt : n < xs.length
    · obtain ⟨b, off, rfl, hb, hrow⟩ := HI.out (by intro e; rw [e] at hlt; simp at hlt)
      obtain ⟨j, hc0⟩ := hrow n xs[n] (List.getElem?_eq_getElem hlt)
      have hcell : W.cell? ⟨b, off + n, none⟩ = some (.float .f32 (xs[n].fl j)) := by rw [HG.out.below.cell (p := ⟨b, off + n, none⟩) hb]; exact hc0
      clear hc0
      have HX := Lib.hid (packS_snoc (List.getElem?_eq_getElem hlt))
      clear hrow
      generalize xs[n] = x at *
      have hb32 := bnd32 x
      obtain ⟨X, hX⟩ : ∃ X : Int, X = (x.b : Int) := ⟨_, rfl⟩
      have hx0 : 0 ≤ X := by omega
      have hx1 : X < 4294967296 := by omega
      generalize hbf : (packS (xs.take n)).2 = bf at *
      have hzb := zig_bounds X bf
      have HXE := Lib.hid hX
      have HBF := Lib.hid hbf
      clear hb32 hX hbf
      have hl5 : (packS (xs.take n)).1.length ≤ 1048000 := by omega
      by_cases hz : 2147483648 ≤ (X - bf) % 4294967296
      · have hZ := Lib.hid (zig_hi hz)
        go_wp2_with (first | (go_at_call 44; refine (specBits_any _ _ _).mono ?_; rintro e w' ⟨rfl, rfl⟩; rw [← HXE.out]))
        rw [← hZ.out]
        refine (l07Bytes_int _ _ _ _ W _ HG.out.again hl5 hzb.1 hzb.2).mono ?_
        rintro e w' ⟨v', W', q2, rfl, rfl, hg⟩
        have HG2 := Lib.hid (hg.after HG.out.below)
        clear hg
        go_wp2_with (fail)
        go_roundw
        case rel => exact ⟨n + 1, _, W', by go_num, rfl, by omega, by rw [HX.out, packStep, HXE.out], by rw [HX.out, packStep, HBF.out, ← HXE.out]; exact HG2⟩
        case measure => simp [intOf]; omega
      · have hZ := Lib.hid (zig_lo hz)
        go_wp2_with (first | (go_at_call 44; refine (specBits_any _ _ _).mono ?_; rintro e w' ⟨rfl, rfl⟩; rw [← HXE.out]))
        rw [← hZ.out]
        refine (l07Bytes_int _ _ _ _ W _ HG.out.again hl5 hzb.1 hzb.2).mono ?_
        rintro e w' ⟨v', W', q2, rfl, rfl, hg⟩
        have HG2 := Lib.hid (hg.after HG.out.below)
        clear hg
        go_wp2_with (fail)
        go_roundw
        case rel => exact ⟨n + 1, _, W', by go_num, rfl, by omega, by rw [HX.out, packStep, HXE.out], by rw [HX.out, packStep, HBF.out, ← HXE.out]; exact HG2⟩
        case measure => simp [intOf]; omega
    · obtain rfl : n = xs.length := by omega
      have hg := HG.out
      rw [List.take_length] at hg
      obtain ⟨a, c2, rfl, hr, -⟩ := hg.read
      have hcv := fun q => conv_back (w := W.drewN q) (c := c2) hr
      have HB := Lib.hid hg.below
      clear hg hr
      go_wp2_with (fail)
      go_ret
      exact ⟨W, _, rfl, rfl, HB.out⟩
end Go.Proofs.Yteeficdlpoladaa
