/- The walks: check numbers; a number's bytes; a row of floats as bytes, by the program. -/
import Derived.Test.YteeficdlpoladaaSd
namespace Go.Proofs.Yteeficdlpoladaa
open Go.RowKit Go.FV

theorem check_bd (l : List UInt8) (n : Nat) (s : Int) (h0 : 0 ≤ s) (h1 : s < 65003) : 0 ≤ checkL s (l.take n) ∧ checkL s (l.take n) < 65003 := checkL_bd _ _ h0 h1

theorem l01Check_any (s : ByteArray) (c0 : Int) (w : World) (hs : s.size ≤ 1048576) (h0 : 0 ≤ c0) (h1 : c0 < 65003) :
    Calls Try.prog 35 #[.int .i64 c0, .string s] w (fun e w' => e = .returned (.int .i64 (checkL c0 s.data.toList)) ∧ w' = w) := by
  go_enter Try.func35, Try.ntmps35
  go_wp2_with (fail)
  go_loop [0, 5] (fun c i => ∃ n : Nat, n ≤ s.size ∧ i = .int .i64 n ∧ c = .int .i64 (checkL c0 (s.data.toList.take n))) (fun _ i => s.size - (intOf i).toNat)
  case atStart => exact ⟨0, Nat.zero_le _, rfl, rfl⟩
  case round =>
    obtain ⟨n, hn, rfl, rfl⟩ := hrel
    have hbd := check_bd s.data.toList n c0 h0 h1
    by_cases hlt : n < s.size
    · have HX := Lib.hid (checkL_snoc (s := c0) (show s.data.toList[n]? = some s[n] by rw [List.getElem?_eq_getElem (by simpa using hlt)]; rfl))
      generalize hc : checkL c0 (s.data.toList.take n) = C at *
      have hb : s[n].toNat < 256 := UInt8.toNat_lt _
      go_wp2_with (fail)
      go_round
      case rel => exact ⟨n + 1, by omega, by go_num, by rw [HX.out, checkStep]⟩
      case measure => simp [intOf]; omega
    · obtain rfl : n = s.size := by omega
      go_wp2_with (fail)
      go_ret
      exact ⟨by rw [List.take_of_length_le (by simp)]; rfl, rfl⟩
theorem check_any (s : ByteArray) (c0 : Int) (w : World) (hs : s.size ≤ 1048576) (h0 : 0 ≤ c0) (h1 : c0 < 65003) :
    Calls Try.prog 43 #[.int .i64 c0, .string s] w (fun e w' => e = .returned (.int .i64 (checkL c0 s.data.toList)) ∧ w' = w) := by
  go_enter Try.func43, Try.ntmps43
  go_wp2_with (fail)
  go_loop [0, 8] (fun c i => ∃ n : Nat, n ≤ s.size ∧ i = .int .i64 n ∧ c = .int .i64 (checkL c0 (s.data.toList.take n))) (fun _ i => s.size - (intOf i).toNat)
  case atStart => exact ⟨0, Nat.zero_le _, rfl, rfl⟩
  case round =>
    obtain ⟨n, hn, rfl, rfl⟩ := hrel
    have hbd := check_bd s.data.toList n c0 h0 h1
    by_cases hlt : n < s.size
    · have HX := Lib.hid (checkL_snoc (s := c0) (show s.data.toList[n]? = some s[n] by rw [List.getElem?_eq_getElem (by simpa using hlt)]; rfl))
      generalize hc : checkL c0 (s.data.toList.take n) = C at *
      have hb : s[n].toNat < 256 := UInt8.toNat_lt _
      have hlt' : (n : Int) < (s.size : Int) := by omega
      go_wp2_with (fail)
      go_round
      case rel => exact ⟨n + 1, by omega, by go_num, by rw [HX.out, checkStep]⟩
      case measure => simp [intOf]; omega
    · obtain rfl : n = s.size := by omega
      go_wp2_with (fail)
      go_ret
      exact ⟨by rw [List.take_of_length_le (by simp)]; rfl, rfl⟩

def leAt (n0 : Int) (k : Nat) (n : Int) (ys : List UInt8) (cnt : Nat) : Prop := leB cnt n0 = ys ++ leB (cnt - k) n ∧ ys.length = k

/-- Bytes in new memory. -/
def NewBytes (l : List UInt8) (w : World) (e : Ending) (w' : World) : Prop := ∃ v W q, e = .returned v ∧ w' = W.drewN q ∧ GrowB w.heap.size w W l v

set_option maxHeartbeats 400000 in
set_option maxRecDepth 20000 in
theorem little_any (n0 : Int) (cnt : Nat) (w : World) (m : Nat) (h0 : 0 ≤ n0) (h1 : n0 ≤ 4294967295) (hc : cnt ≤ 8) :
    Calls Try.prog 42 #[.int .i64 n0, .int .i64 (cnt : Int)] (w.drewN m) (NewBytes (leB cnt n0) w) := by
  go_enter Try.func42, Try.ntmps42
  go_wp2_with (fail)
  go_loopw [0, 5, 8] (fun nv v k wr => ∃ (u q : Nat) (W : World) (n : Int) (ys : List UInt8), k = .int .i64 u ∧ wr = W.drewN q ∧ u ≤ cnt ∧ nv = .int .i64 n ∧ 0 ≤ n ∧ n ≤ 4294967295 ∧ Hid (GrowB w.heap.size w W ys v) ∧ Hid (leAt n0 u n ys cnt)) (fun _ _ k _ => cnt - (intOf k).toNat)
  case atStart => exact ⟨0, _, _, n0, [], rfl, rfl, Nat.zero_le _, rfl, h0, h1, GrowB.start w, rfl, rfl⟩
  case round =>
    obtain ⟨u, q, W, n, ys, rfl, rfl, hu, rfl, hn0, hn1, HG, HL⟩ := hrel
    have hyl : ys.length ≤ 8 := by have := HL.out.2; omega
    by_cases hlt : u < cnt
    · have hlt' : (u : Int) < (cnt : Int) := by omega
      go_wp2_with (at_builtin; refine wpl_byte (by omega) (by omega) (by omega) HG.out rfl rfl rfl ?_; intro v' W3 HG3)
      go_roundw
      case rel =>
        refine ⟨u + 1, 0, W3, n / 256, _, by go_num, rfl, by omega, rfl, by omega, by omega, HG3, ?_⟩
        obtain ⟨h3, h4⟩ := HL.out
        refine ⟨?_, by rw [List.length_append, h4]; rfl⟩
        obtain ⟨d, hd⟩ : ∃ d, cnt - u = d + 1 := ⟨cnt - u - 1, by omega⟩
        rw [h3, hd, show cnt - (u + 1) = d by omega, leB, byteOf_eq (a := n % 256) (b := n) (by omega), List.append_assoc]; rfl
      case measure => simp [intOf]; omega
    · obtain rfl : u = cnt := by omega
      go_wp2_with (fail)
      go_ret
      have h := HL.out.1
      rw [Nat.sub_self, leB, List.append_nil] at h
      rw [h]
      exact ⟨_, W, _, rfl, rfl, HG.out⟩

theorem and32 (n : Int) : bits .and .i64 n 4294967295 = n % 4294967296 := by
  have hm : (BitVec.ofInt 64 4294967295).toNat = 2 ^ 32 - 1 := by decide
  have key : (BitVec.ofInt 64 n &&& BitVec.ofInt 64 4294967295).toNat = (n % ((2 ^ 64 : Nat) : Int)).toNat % 2 ^ 32 := by
    rw [BitVec.toNat_and, BitVec.toNat_ofInt, hm, Nat.and_two_pow_sub_one_eq_mod]
  show IntKind.i64.wrap ((BitVec.ofInt 64 n &&& BitVec.ofInt 64 4294967295).toNat : Nat) = n % 4294967296
  rw [key, IntKind.wrap_i64]
  omega

/-- A word of 32 bits. -/
def Sm (n : Nat) : Prop := n < 4294967296
theorem sm_zig (a b : Int) : Sm (zig a b).toNat := by have := zig_bounds a b; unfold Sm; omega
theorem Sm.le {n u : Nat} (h : Sm n) (hu : u ≤ n) : (u : Int) ≤ 4294967295 := by
  have : n < 4294967296 := h
  omega

set_option maxHeartbeats 1000000 in
set_option maxRecDepth 20000 in
theorem pack_any (p : Option Addr) (c : Nat) (xs : List (FV .f32)) (w : World) (m : Nat) (hin : In32 w p xs) (hl : xs.length ≤ 128) :
    Calls Try.prog 40 #[.slice p xs.length c] (w.drewN m) (NewBytes (packL xs) w) := by
  have HI := Lib.hid hin
  have hand := and32
  clear hin
  go_enter Try.func40, Try.ntmps40
  go_wp2_with (fail)
  go_loopw [3, 4, 12] (fun v bf k wr => ∃ (n q : Nat) (W : World), k = .int .i64 n ∧ wr = W.drewN q ∧ n ≤ xs.length ∧ bf = .int .i64 (packS (xs.take n)).2 ∧ Hid (GrowB w.heap.size w W (packS (xs.take n)).1 v)) (fun _ _ k _ => xs.length - (intOf k).toNat)
  case atStart => exact ⟨0, _, _, rfl, rfl, Nat.zero_le _, rfl, GrowB.start w⟩
  case round =>
    obtain ⟨n, q, W, rfl, rfl, hn, rfl, HG⟩ := hrel
    have hlen := packS_len (xs.take n)
    have hlen2 : (xs.take n).length ≤ n := List.length_take_le _ _
    have hbd := packS_bd (xs.take n)
    by_cases hlt : n < xs.length
    · obtain ⟨b, off, rfl, hb, hrow⟩ := HI.out (by intro e; rw [e] at hlt; simp at hlt)
      obtain ⟨j, hc0⟩ := hrow n xs[n] (List.getElem?_eq_getElem hlt)
      have hcell : W.cell? ⟨b, off + n, none⟩ = some (.float .f32 (xs[n].fl j)) := by rw [HG.out.below.cell (p := ⟨b, off + n, none⟩) hb]; exact hc0
      clear hc0
      have HX := Lib.hid (packS_snoc (List.getElem?_eq_getElem hlt))
      clear hrow
      generalize xs[n] = x at *
      have hb32 := bnd32 x
      obtain ⟨X, hX⟩ : ∃ X : Int, X = (x.b : Int) := ⟨_, rfl⟩
      have hx0 : 0 ≤ X := by omega
      have hx1 : X < 4294967296 := by omega
      generalize hbf : (packS (xs.take n)).2 = bf at *
      have hzb := zig_bounds X bf
      have hlt' : (n : Int) < (xs.length : Int) := by omega
      have HXE := Lib.hid hX
      have HBF := Lib.hid hbf
      clear hb32 hX hbf
      have hl5 : (packS (xs.take n)).1.length ≤ 1048000 := by omega
      have hZN : Hid (((zig X bf).toNat : Int) = zig X bf) := Int.toNat_of_nonneg hzb.1
      by_cases hz : 2147483648 ≤ (X - bf) % 4294967296
      · have hZ := Lib.hid (zig_hi hz)
        go_wp2_with (first | (go_at_call 48; refine (implBits_any _ _ _).mono ?_; rintro e w' ⟨rfl, rfl⟩; rw [← HXE.out]))
        have HVL := Lib.hid (zig_len X bf)
        have HSM := sm_zig X bf
        rw [← hZ.out, ← hZN.out]
        obtain ⟨z1, hz1⟩ : ∃ z1, z1 = (zig X bf).toNat := ⟨_, rfl⟩
        have HZ0 := Lib.hid hz1.symm
        rw [← hz1] at HVL HSM hZN ⊢
        clear hz1 hzb hbd hx0 hx1 hand
        clear hz
        go_loopw [3, 8] (fun v k wr => ∃ (u q : Nat) (W2 : World) (ys : List UInt8), k = .int .i64 u ∧ wr = W2.drewN q ∧ u ≤ z1 ∧ Hid (GrowB w.heap.size w W2 ys v) ∧ Hid (varRest (packS (xs.take n)).1 ys z1 u)) (fun _ k _ => (intOf k).toNat)
        case atStart => exact ⟨z1, _, W, _, rfl, rfl, Nat.le_refl _, HG, rfl⟩
        case round =>
          obtain ⟨u, q2, W2, ys, rfl, rfl, hu, HG2, HR⟩ := hrel
          have hys : ys.length ≤ 1048100 := by
            have h1 := congrArg List.length HR.out
            rw [List.length_append, List.length_append] at h1
            have h2 := HVL.out
            omega
          have hu2 := HSM.le hu
          by_cases hlt2 : (u : Int) < 128
          · go_wp2_with (at_builtin; refine wpl_byte (by omega) (by omega) (by omega) HG2.out rfl rfl rfl ?_; intro v' W3 HG3)
            go_roundw
            case rel =>
              have e : (packS (xs.take n)).1 ++ varint z1 = ys ++ [byteOf (u : Int)] := by have h := HR.out; unfold varRest at h; rw [h, varint_last (by omega)]
              exact ⟨n + 1, 0, W3, by go_num, rfl, by omega, by rw [HX.out, packStep, HXE.out], by rw [HX.out, packStep, HBF.out, ← HXE.out, HZ0.out, e]; exact HG3⟩
            case measure => simp [intOf]; omega
          · go_wp2_with (at_builtin; refine wpl_byte (by omega) (by omega) (by omega) HG2.out rfl rfl rfl ?_; intro v' W3 HG3)
            go_roundw
            case rel =>
              first | refine ⟨u / 128, by omega, 0, W3, rfl, by omega, _, HG3, ?_⟩ | refine ⟨u / 128, 0, W3, _, by go_num, rfl, by omega, HG3, ?_⟩
              have h := HR.out
              show varRest _ _ _ _
              unfold varRest at h ⊢
              rw [h, varint_more (by omega), List.append_assoc]; rfl
            case measure => simp [intOf]; omega
      · have hZ := Lib.hid (zig_lo hz)
        go_wp2_with (first | (go_at_call 48; refine (implBits_any _ _ _).mono ?_; rintro e w' ⟨rfl, rfl⟩; rw [← HXE.out]))
        have HVL := Lib.hid (zig_len X bf)
        have HSM := sm_zig X bf
        rw [← hZ.out, ← hZN.out]
        obtain ⟨z1, hz1⟩ : ∃ z1, z1 = (zig X bf).toNat := ⟨_, rfl⟩
        have HZ0 := Lib.hid hz1.symm
        rw [← hz1] at HVL HSM hZN ⊢
        clear hz1 hzb hbd hx0 hx1 hand
        clear hz
        go_loopw [3, 8] (fun v k wr => ∃ (u q : Nat) (W2 : World) (ys : List UInt8), k = .int .i64 u ∧ wr = W2.drewN q ∧ u ≤ z1 ∧ Hid (GrowB w.heap.size w W2 ys v) ∧ Hid (varRest (packS (xs.take n)).1 ys z1 u)) (fun _ k _ => (intOf k).toNat)
        case atStart => exact ⟨z1, _, W, _, rfl, rfl, Nat.le_refl _, HG, rfl⟩
        case round =>
          obtain ⟨u, q2, W2, ys, rfl, rfl, hu, HG2, HR⟩ := hrel
          have hys : ys.length ≤ 1048100 := by
            have h1 := congrArg List.length HR.out
            rw [List.length_append, List.length_append] at h1
            have h2 := HVL.out
            omega
          have hu2 := HSM.le hu
          by_cases hlt2 : (u : Int) < 128
          · go_wp2_with (at_builtin; refine wpl_byte (by omega) (by omega) (by omega) HG2.out rfl rfl rfl ?_; intro v' W3 HG3)
            go_roundw
            case rel =>
              have e : (packS (xs.take n)).1 ++ varint z1 = ys ++ [byteOf (u : Int)] := by have h := HR.out; unfold varRest at h; rw [h, varint_last (by omega)]
              exact ⟨n + 1, 0, W3, by go_num, rfl, by omega, by rw [HX.out, packStep, HXE.out], by rw [HX.out, packStep, HBF.out, ← HXE.out, HZ0.out, e]; exact HG3⟩
            case measure => simp [intOf]; omega
          · go_wp2_with (at_builtin; refine wpl_byte (by omega) (by omega) (by omega) HG2.out rfl rfl rfl ?_; intro v' W3 HG3)
            go_roundw
            case rel =>
              first | refine ⟨u / 128, by omega, 0, W3, rfl, by omega, _, HG3, ?_⟩ | refine ⟨u / 128, 0, W3, _, by go_num, rfl, by omega, HG3, ?_⟩
              have h := HR.out
              show varRest _ _ _ _
              unfold varRest at h ⊢
              rw [h, varint_more (by omega), List.append_assoc]; rfl
            case measure => simp [intOf]; omega
    · obtain rfl : n = xs.length := by omega
      go_wp2_with (fail)
      go_ret
      have hg := HG.out
      rw [List.take_length] at hg
      exact ⟨_, W, _, rfl, rfl, hg⟩
end Go.Proofs.Yteeficdlpoladaa
