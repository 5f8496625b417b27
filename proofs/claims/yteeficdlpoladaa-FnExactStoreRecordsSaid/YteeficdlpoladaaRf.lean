/- The walks: rows of floats the same. -/
import Derived.Test.YteeficdlpoladaaRe
namespace Go.Proofs.Yteeficdlpoladaa
open Go.RowKit Go.FV

theorem take_snoc {α : Type} {l : List α} {n : Nat} {x : α} (h : l[n]? = some x) : l.take (n + 1) = l.take n ++ [x] := by
  rw [List.take_add_one, h]; rfl
theorem all_take_snoc {α : Type} {p : α → Bool} {xs : List α} {n : Nat} {x : α} (h : xs[n]? = some x) (ha : (xs.take n).all p = true) (hx : p x = true) : (xs.take (n + 1)).all p = true := by
  rw [take_snoc h, List.all_append, ha]; simp [hx]
theorem not_all {α : Type} {p : α → Bool} {xs : List α} {n : Nat} {x : α} (h : xs[n]? = some x) (hx : p x = false) : xs.all p = false := by
  rw [List.all_eq_false]
  exact ⟨x, List.mem_of_getElem? h, by rw [hx]; simp⟩

/-- Lists the same: by a test of two. -/
def sameBy {α : Type} (p : α → α → Bool) (xs ys : List α) : Bool := decide (xs.length = ys.length) && (xs.zip ys).all fun z => p z.1 z.2
theorem sameBy_len {α : Type} {p : α → α → Bool} {xs ys : List α} (h : xs.length ≠ ys.length) : sameBy p xs ys = false := by unfold sameBy; rw [decide_eq_false h]; rfl
theorem sameBy_not {α : Type} {p : α → α → Bool} {xs ys : List α} {n : Nat} {x y : α} (hx : xs[n]? = some x) (hy : ys[n]? = some y) (h : p x y = false) : sameBy p xs ys = false := by
  unfold sameBy
  rw [not_all (n := n) (x := (x, y)) (by rw [List.getElem?_zip_eq_some]; exact ⟨hx, hy⟩) h, Bool.and_false]
theorem sameBy_more {α : Type} {p : α → α → Bool} {xs ys : List α} {n : Nat} {x y : α} (hx : xs[n]? = some x) (hy : ys[n]? = some y) (h : p x y = true) (ha : ((xs.zip ys).take n).all (fun z => p z.1 z.2) = true) : ((xs.zip ys).take (n + 1)).all (fun z => p z.1 z.2) = true :=
  all_take_snoc (x := (x, y)) (by rw [List.getElem?_zip_eq_some]; exact ⟨hx, hy⟩) ha h
theorem sameBy_all {α : Type} {p : α → α → Bool} {xs ys : List α} (hl : xs.length = ys.length) (ha : ((xs.zip ys).take xs.length).all (fun z => p z.1 z.2) = true) : sameBy p xs ys = true := by
  unfold sameBy
  rw [decide_eq_true hl, Bool.true_and]
  rwa [List.take_of_length_le (by rw [List.length_zip]; omega)] at ha

abbrev sameL (xs ys : List (FV .f32)) : Bool := sameBy sameF xs ys

set_option maxHeartbeats 400000 in
theorem l01SameAll_any (p p' : Option Addr) (c c' : Nat) (xs ys : List (FV .f32)) (w : World) (m : Nat) (hin : In32 w p xs) (hin' : In32 w p' ys) (hl : xs.length ≤ 1048576) :
    Calls Try.prog 13 #[.slice p xs.length c, .slice p' ys.length c'] (w.drewN m) (RetB (sameL xs ys) w) := by
  have HI := Lib.hid hin
  have HI' := Lib.hid hin'
  clear hin hin'
  by_cases hlen : xs.length = ys.length
  · have HL := Lib.hid hlen
    rw [← hlen]
    clear hlen
    go_enter Try.func13, Try.ntmps13
    go_wp2_with (fail)
    go_loopw [5] (fun k wr => ∃ (n q : Nat), n ≤ xs.length ∧ k = .int .i64 n ∧ wr = w.drewN q ∧ Hid (((xs.zip ys).take n).all (fun z => sameF z.1 z.2) = true)) (fun k _ => xs.length - (intOf k).toNat)
    case atStart => exact ⟨0, _, Nat.zero_le _, rfl, rfl, rfl⟩
    case round =>
      obtain ⟨n, q, hn, rfl, rfl, HA⟩ := hrel
      by_cases hlt : n < xs.length
      · have hlt2 : n < ys.length := by have := HL.out; omega
        obtain ⟨b, off, rfl, hb, hrow⟩ := HI.out (by intro e; rw [e] at hlt; simp at hlt)
        obtain ⟨b', off', rfl, hb', hrow'⟩ := HI'.out (by intro e; rw [e] at hlt2; simp at hlt2)
        obtain ⟨j, hcell⟩ := hrow n xs[n] (List.getElem?_eq_getElem hlt)
        obtain ⟨j', hcell'⟩ := hrow' n ys[n] (List.getElem?_eq_getElem hlt2)
        have HX := Lib.hid (List.getElem?_eq_getElem hlt)
        have HY := Lib.hid (List.getElem?_eq_getElem hlt2)
        clear hrow hrow'
        generalize xs[n] = x at *
        generalize ys[n] = y at *
        have hlt' : (n : Int) < (xs.length : Int) := by omega
        clear hlt2
        cases hs : sameF x y
        · have HS := Lib.hid hs
          go_wp2_with (fail)
          go_quiet ((go_at_call 26; exact (l01Same_any x y _ _ _).mono fun e w'' h => ⟨h.1, _, h.2⟩))
          go_wp2_with (fail)
          go_ret
          exact ⟨_, by rw [sameL, sameBy_not HX.out HY.out HS.out]; rfl, by first | rfl | exact World.drewN_drewN ..⟩
        · have HS := Lib.hid hs
          go_wp2_with (fail)
          go_quiet ((go_at_call 26; exact (l01Same_any x y _ _ _).mono fun e w'' h => ⟨h.1, _, h.2⟩))
          go_wp2_with (fail)
          go_roundw
          case rel => exact ⟨n + 1, _, by omega, by go_num, by first | rfl | exact World.drewN_drewN .., sameBy_more HX.out HY.out HS.out HA.out⟩
          case measure => simp [intOf]; omega
      · obtain rfl : n = xs.length := by omega
        go_wp2_with (fail)
        go_ret
        exact ⟨_, by rw [sameL, sameBy_all HL.out HA.out]; rfl, rfl⟩
  · have HL := Lib.hid hlen
    have hne : ((xs.length : Int) == (ys.length : Int)) = false := by rw [beq_eq_false_iff_ne]; omega
    have hne2 : ((xs.length : Int) != (ys.length : Int)) = true := by rw [bne_iff_ne]; omega
    go_enter Try.func13, Try.ntmps13
    go_wp2_with (fail)
    go_ret
    exact ⟨_, by rw [sameL, sameBy_len HL.out]; rfl, rfl⟩

set_option maxHeartbeats 400000 in
theorem equalF_any (p p' : Option Addr) (c c' : Nat) (xs ys : List (FV .f32)) (w : World) (m : Nat) (hin : In32 w p xs) (hin' : In32 w p' ys) (hl : xs.length ≤ 1048576) :
    Calls Try.prog 28 #[.slice p xs.length c, .slice p' ys.length c', .func (.func 29) #[] #[]] (w.drewN m) (RetB (sameL xs ys) w) := by
  have HI := Lib.hid hin
  have HI' := Lib.hid hin'
  clear hin hin'
  by_cases hlen : xs.length = ys.length
  · have HL := Lib.hid hlen
    rw [← hlen]
    clear hlen
    go_enter Try.func28, Try.ntmps28
    go_wp2_with (fail)
    go_loopw [17] (fun k wr => ∃ (n q : Nat), n ≤ xs.length ∧ k = .int .i64 n ∧ wr = w.drewN q ∧ Hid (((xs.zip ys).take n).all (fun z => sameF z.1 z.2) = true)) (fun k _ => xs.length - (intOf k).toNat)
    case atStart => exact ⟨0, _, Nat.zero_le _, rfl, rfl, rfl⟩
    case round =>
      obtain ⟨n, q, hn, rfl, rfl, HA⟩ := hrel
      by_cases hlt : n < xs.length
      · have hlt2 : n < ys.length := by have := HL.out; omega
        obtain ⟨b, off, rfl, hb, hrow⟩ := HI.out (by intro e; rw [e] at hlt; simp at hlt)
        obtain ⟨b', off', rfl, hb', hrow'⟩ := HI'.out (by intro e; rw [e] at hlt2; simp at hlt2)
        obtain ⟨j, hcell⟩ := hrow n xs[n] (List.getElem?_eq_getElem hlt)
        obtain ⟨j', hcell'⟩ := hrow' n ys[n] (List.getElem?_eq_getElem hlt2)
        have HX := Lib.hid (List.getElem?_eq_getElem hlt)
        have HY := Lib.hid (List.getElem?_eq_getElem hlt2)
        clear hrow hrow'
        generalize xs[n] = x at *
        generalize ys[n] = y at *
        have hlt' : (n : Int) < (xs.length : Int) := by omega
        clear hlt2
        cases hs : sameF x y
        · have HS := Lib.hid hs
          go_wp2_with (go_at_call 29; refine (sameNumber_any x y _ _ _ _).mono ?_; rintro e w' ⟨q2, rfl, rfl⟩)
          go_ret
          exact ⟨_, by rw [sameL, sameBy_not HX.out HY.out HS.out]; rfl, rfl⟩
        · have HS := Lib.hid hs
          go_wp2_with (go_at_call 29; refine (sameNumber_any x y _ _ _ _).mono ?_; rintro e w' ⟨q2, rfl, rfl⟩)
          go_roundw
          case rel => exact ⟨n + 1, _, by omega, by go_num, rfl, sameBy_more HX.out HY.out HS.out HA.out⟩
          case measure => simp [intOf]; omega
      · obtain rfl : n = xs.length := by omega
        go_wp2_with (fail)
        go_ret
        exact ⟨_, by rw [sameL, sameBy_all HL.out HA.out]; rfl, rfl⟩
  · have HL := Lib.hid hlen
    have hne : ((xs.length : Int) == (ys.length : Int)) = false := by rw [beq_eq_false_iff_ne]; omega
    have hne2 : ((xs.length : Int) != (ys.length : Int)) = true := by rw [bne_iff_ne]; omega
    go_enter Try.func28, Try.ntmps28
    go_wp2_with (fail)
    go_ret
    exact ⟨_, by rw [sameL, sameBy_len HL.out]; rfl, rfl⟩

theorem sameNumbers_any (p p' : Option Addr) (c c' : Nat) (xs ys : List (FV .f32)) (w : World) (m : Nat) (hin : In32 w p xs) (hin' : In32 w p' ys) (hl : xs.length ≤ 1048576) :
    Calls Try.prog 17 #[.slice p xs.length c, .slice p' ys.length c'] (w.drewN m) (RetB (sameL xs ys) w) := by
  have HI := Lib.hid hin
  have HI' := Lib.hid hin'
  clear hin hin'
  go_enter Try.func17, Try.ntmps17
  go_wp2_with (go_at_call 28; refine (equalF_any p p' c c' xs ys _ _ HI.out HI'.out hl).mono ?_; rintro e w' ⟨q2, rfl, rfl⟩)
  go_ret
  exact ⟨_, rfl, rfl⟩
end Go.Proofs.Yteeficdlpoladaa
