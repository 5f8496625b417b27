/- The law's walk: FillGaps. -/
import Derived.Test.YtnpgpkbnfibkkaaGt
namespace Go.Proofs.Ytnpgpkbnfibkkaa
open Go.RowKit Go.FV

def RetNo (w : World) (e : Ending) (w' : World) : Prop :=
  ∃ p c w1 n, e = .returned (.tuple #[.slice p 0 c, .bool false]) ∧ w' = w1.drewN n ∧ Below w.heap.size w w1
def RetYes (len : Nat) (vals : List (FV .f32)) (w : World) (e : Ending) (w' : World) : Prop :=
  ∃ g c w1 n, e = .returned (.tuple #[.slice (some ⟨g, 0, none⟩) len c, .bool true]) ∧ w' = w1.drewN n ∧ Below w.heap.size w w1 ∧ Own32 w.heap.size w1 g vals

theorem RetFill.no {vals : List (FV .f32)} {w : World} {e : Ending} {w' : World} (h : RetFill false vals w e w') : RetNo w e w' := by
  obtain ⟨p, c, w1, n, he, hw, hb, -⟩ := h
  exact ⟨p, c, w1, n, he, hw, hb⟩
theorem RetFill.yes {vals : List (FV .f32)} {w : World} {e : Ending} {w' : World} (h : RetFill true vals w e w') : RetYes vals.length vals w e w' := by
  obtain ⟨p, c, w1, n, he, hw, hb, hg⟩ := h
  obtain ⟨g, rfl, ho⟩ := hg rfl
  exact ⟨g, c, w1, n, he, hw, hb, ho⟩

section
variable {p p2 : Option Addr} {c c2 : Nat} {xs : List (FV .f32)} {ks : List Bool} {w : World} (m : Nat) (hin : In32 w p xs) (hinB : InB w p2 ks) (hl : xs.length ≤ 1048576)
include hin hinB hl
theorem specFill_no (hok : fillOk xs ks = false) : Calls Try.prog 33 #[.slice p xs.length c, .slice p2 ks.length c2] (w.drewN m) (RetNo w) := by
  have h := specFill_any p c xs p2 c2 ks w m hin hinB hl
  rw [hok] at h
  exact h.mono fun _ _ h => h.no
theorem specFill_yes (hok : fillOk xs ks = true) : Calls Try.prog 33 #[.slice p xs.length c, .slice p2 ks.length c2] (w.drewN m) (RetYes xs.length (fillL xs ks) w) := by
  have h := specFill_any p c xs p2 c2 ks w m hin hinB hl
  rw [hok] at h
  refine h.mono fun _ _ h => ?_
  have := h.yes
  rwa [fillL_length] at this
theorem implFill_no (hok : fillOk xs ks = false) : Calls Try.prog 35 #[.slice p xs.length c, .slice p2 ks.length c2] (w.drewN m) (RetNo w) := by
  have h := implFill_any p c xs p2 c2 ks w m hin hinB hl
  rw [hok] at h
  exact h.mono fun _ _ h => h.no
theorem implFill_yes (hok : fillOk xs ks = true) : Calls Try.prog 35 #[.slice p xs.length c, .slice p2 ks.length c2] (w.drewN m) (RetYes xs.length (fillL xs ks) w) := by
  have h := implFill_any p c xs p2 c2 ks w m hin hinB hl
  rw [hok] at h
  refine h.mono fun _ _ h => ?_
  have := h.yes
  rwa [fillL_length] at this
end

theorem Own32.below {B b : Nat} {w w1 : World} {xs : List (FV .f32)} (h : Own32 B w b xs) (hb : Below w.heap.size w w1) : Own32 B w1 b xs :=
  ⟨h.new, Nat.lt_of_lt_of_le h.lt hb.size, h.row.below hb h.lt, fun o => by rw [hb.frozen (p := ⟨b, o, none⟩) h.lt]; exact h.free o⟩
theorem OwnB.below {B b : Nat} {w w1 : World} {ks : List Bool} (h : OwnB B w b ks) (hb : Below w.heap.size w w1) : OwnB B w1 b ks :=
  ⟨h.new, Nat.lt_of_lt_of_le h.lt hb.size, fun k x hk => by rw [hb.cell (p := ⟨b, 0 + k, none⟩) h.lt]; exact h.row k x hk, fun o => by rw [hb.frozen (p := ⟨b, o, none⟩) h.lt]; exact h.free o⟩
theorem In32.nil (w : World) (p : Option Addr) : In32 w p [] := fun h => absurd rfl h

theorem eqEmpty_any (p p' : Option Addr) (c c' : Nat) (w : World) (m : Nat) : Calls Try.prog 31 #[.slice p 0 c, .slice p' 0 c'] (w.drewN m) (RetB true w) := eqFloat32S_any p p' c c' [] w m (In32.nil _ _) (In32.nil _ _) (by simp)

/-- Two slices of the reference's values, of length n. -/
theorem eqFill_any (p p' : Option Addr) (c c' : Nat) (n : Nat) (vs : List (FV .f32)) (w : World) (m : Nat) (hin : In32 w p vs) (hin' : In32 w p' vs) (hn : vs.length = n) (hl : n ≤ 1048576) : Calls Try.prog 31 #[.slice p n c, .slice p' n c'] (w.drewN m) (RetB true w) := by
  subst hn
  exact eqFloat32S_any p p' c c' vs w m hin hin' hl

/-- Behind a call that turns nothing that was there: the whole since the law began. -/
theorem below_on {w a b : World} (h : Below w.heap.size w a) (hb : Below a.heap.size a b) : Below w.heap.size w b := h.trans (hb.mono h.size)

def MarkedN (n0 : Int) (B g n : Nat) (w : World) (e : Ending) (w' : World) : Prop :=
  ∃ w1 q, e = .returned (.int .i64 (n0 + n)) ∧ w' = w1.drewN q ∧ OnlyAt g w w1 ∧ Own32 B w1 g (marks n0 n)
theorem markN_any (g c B n : Nat) (xs : List (FV .f32)) (n0 : Int) (w : World) (m : Nat) (ho : Own32 B w g xs) (hn : xs.length = n) (hl : n ≤ 1048576) (h0 : 0 ≤ n0) (h1 : n0 ≤ 1048577) :
    Calls Try.prog 37 #[.slice (some ⟨g, 0, none⟩) n c, .int .i64 n0] (w.drewN m) (MarkedN n0 B g n w) := by
  subst hn
  exact markF_any g c B xs n0 w m ho hl h0 h1

set_option maxRecDepth 20000 in
set_option maxHeartbeats 1000000 in
theorem lawFill_yes (p : Option Addr) (c : Nat) (xs : List (FV .f32)) (p2 : Option Addr) (c2 : Nat) (ks : List Bool) (w : World) (hin : In32 w p xs) (hinB : InB w p2 ks) (hl : xs.length ≤ 1048576) (hl2 : ks.length ≤ 1048576) (hok : fillOk xs ks = true) :
    Calls Try.prog 9 #[.slice p xs.length c, .slice p2 ks.length c2] (w.drewN 0) (Holds w) := by
  have d1 : decide ((xs.length : Int) > 1048576) = false := decide_eq_false (by omega)
  have d2 : decide ((ks.length : Int) > 1048576) = false := decide_eq_false (by omega)
  have d3 : decide ((1 : Int) + xs.length + ks.length < 0) = false := decide_eq_false (by omega)
  have d4 : decide ((1 : Int) + xs.length < 0) = false := decide_eq_false (by omega)
  have HOK := Lib.hid hok
  have hlen := Lib.hid (fillL_length xs ks)
  clear hok
  go_enter Try.func9, Try.ntmps9
  go_wp2_with (first
    | (go_at_call 29; refine (toFloat32S_any _ _ _ _ _ hin hl).mono ?_; rintro e w' ⟨b1, w1, n1, rfl, rfl, hb1, ho1⟩)
    | (go_at_call 34; refine (toBoolS_any _ _ _ _ _ (hinB.below hb1) hl2).mono ?_; rintro e w' ⟨b2, w2, n2, rfl, rfl, hb2, ho2⟩))
  go_wp2_with (go_at_call 33; refine (specFill_yes _ (ho1.in32.below hb2) ho2.inB hl HOK.out).mono ?_; rintro e w' ⟨g5, c5, w3, n3, rfl, rfl, hb3, ho5⟩)
  have hi3 := ((hin.below hb1).below hb2).below hb3
  have hj3 := ((hinB.below hb1).below hb2).below hb3
  have hB3 := below_on (below_on hb1 hb2) hb3
  have HIN := Lib.hid hin
  have HINB := Lib.hid hinB
  clear hin hinB ho1 ho2 hb1 hb2 hb3
  go_wp2_with (first
    | (go_at_call 29; refine (toFloat32S_any _ _ _ _ _ hi3 hl).mono ?_; rintro e w' ⟨bx, w4, n4, rfl, rfl, hb4, hox⟩)
    | (go_at_call 34; refine (toBoolS_any _ _ _ _ _ (hj3.below hb4) hl2).mono ?_; rintro e w' ⟨bk, w5, n5, rfl, rfl, hb5, hok⟩))
  have hox5 := hox.below hb5
  have h55 := (ho5.below hb4).below hb5
  have hi5 := (hi3.below hb4).below hb5
  have hj5 := (hj3.below hb4).below hb5
  have hB5 := below_on (below_on hB3 hb4) hb5
  have hne : bx < bk := Nat.lt_of_lt_of_le hox.lt hok.new
  have hg5x : g5 < bx := Nat.lt_of_lt_of_le ho5.lt hox.new
  have hsz : w.heap.size ≤ bx := Nat.le_trans hB3.size hox.new
  clear hox ho5 hi3 hj3 hB3 hb4 hb5
  go_wp2_with (first
    | (go_at_call 35; refine (implFill_yes _ hox5.in32 hok.inB hl HOK.out).mono ?_; rintro e w' ⟨g9, c9, w6, n6, rfl, rfl, hb6, ho9⟩)
    | (go_at_call 31; refine (eqFill_any _ _ _ _ _ _ _ _ ho9.in32 (h55.below hb6).in32 hlen.out hl).mono ?_; rintro e w' ⟨q6, rfl, rfl⟩))
  have hox6 := hox5.below hb6
  have hok6 := hok.below hb6
  have h56 := h55.below hb6
  have hi6 := hi5.below hb6
  have hj6 := hj5.below hb6
  have hB6 := below_on hB5 hb6
  have hg9k : bk < g9 := Nat.lt_of_lt_of_le hok.lt ho9.new
  clear hox5 hok h55 hi5 hj5 hB5 hb6
  go_wp2_with (first
    | (go_at_call 29; refine (toFloat32S_any _ _ _ _ _ hi6 hl).mono ?_; rintro e w' ⟨b7, w7, n7, rfl, rfl, hb7, ho7⟩)
    | (go_at_call 31; refine (eqFloat32S_any _ _ _ _ _ _ _ (hox6.below hb7).in32 ho7.in32 hl).mono ?_; rintro e w' ⟨q7, rfl, rfl⟩)
    | (go_at_call 34; refine (toBoolS_any _ _ _ _ _ (hj6.below hb7) hl2).mono ?_; rintro e w' ⟨b8, w8, n8, rfl, rfl, hb8, ho8⟩)
    | (go_at_call 36; refine (eqBoolS_any _ _ _ _ _ _ _ ((hok6.below hb7).below hb8).inB ho8.inB hl2).mono ?_; rintro e w' ⟨q8, rfl, rfl⟩))
  have hox8 := (hox6.below hb7).below hb8
  have hok8 := (hok6.below hb7).below hb8
  have h58 := (h56.below hb7).below hb8
  have h98 := (ho9.below hb7).below hb8
  have hi8 := (hi6.below hb7).below hb8
  have hj8 := (hj6.below hb7).below hb8
  have hB8 := below_on (below_on hB6 hb7) hb8
  clear hox6 hok6 h56 ho9 hi6 hj6 hB6 hb7 hb8 ho7 ho8
  go_wp2_with (go_at_call 37; refine (markF_any _ _ _ _ _ _ _ hox8 hl (by omega) (by omega)).mono ?_; rintro e w' ⟨w9, q9, rfl, rfl, hon9, hom9⟩)
  go_wp2_with (first
    | (go_at_call 38; refine (markB_any _ _ _ _ _ _ _ (hon9.ownB hok8 (by omega)) hl2 (by omega) (by omega)).mono ?_; rintro e w' ⟨w10, q10, rfl, rfl, hon10⟩)
    | (go_at_call 31; refine (eqFill_any _ _ _ _ _ _ _ _ (hon10.own32 (hon9.own32 h98 (by omega)) (by omega)).in32 (hon10.own32 (hon9.own32 h58 (by omega)) (by omega)).in32 hlen.out hl).mono ?_; rintro e w' ⟨q11, rfl, rfl⟩))
  have h910 := hon10.own32 (hon9.own32 h98 (by omega)) (by omega)
  have h510 := hon10.own32 (hon9.own32 h58 (by omega)) (by omega)
  have hB10 := (hB8.trans (hon9.below hsz)).trans (hon10.below (by omega))
  clear hon9 hon10 h98 h58 hB8 hom9 hox8 hok8 hi8 hj8
  go_wp2_with (go_at_call 37; refine (markN_any _ _ _ _ _ _ _ _ h910 hlen.out hl (by omega) (by omega)).mono ?_; rintro e w' ⟨w11, q11, rfl, rfl, hon11, hom11⟩)
  go_wp2_with (go_at_call 39; refine (heldF_any _ _ _ _ _ _ _ hom11 hl (by omega) (by omega)).mono ?_; rintro e w' ⟨q12, rfl, rfl⟩)
  have h511 := hon11.own32 h510 (by omega)
  have hB11 := hB10.trans (hon11.below (by omega))
  have hi11 := HIN.out.below hB11
  have hj11 := HINB.out.below hB11
  clear h910 h510 hB10 hon11
  go_wp2_with (first
    | (go_at_call 29; refine (toFloat32S_any _ _ _ _ _ hi11 hl).mono ?_; rintro e w' ⟨b12, w12, n12, rfl, rfl, hb12, ho12⟩)
    | (go_at_call 34; refine (toBoolS_any _ _ _ _ _ (hj11.below hb12) hl2).mono ?_; rintro e w' ⟨b13, w13, n13, rfl, rfl, hb13, ho13⟩))
  go_wp2_with (first
    | (go_at_call 35; refine (implFill_yes _ (ho12.in32.below hb13) ho13.inB hl HOK.out).mono ?_; rintro e w' ⟨g14, c14, w14, n14, rfl, rfl, hb14, ho14⟩)
    | (go_at_call 31; refine (eqFill_any _ _ _ _ _ _ _ _ ho14.in32 (((h511.below hb12).below hb13).below hb14).in32 hlen.out hl).mono ?_; rintro e w' ⟨q14, rfl, rfl⟩))
  have hom14 := ((hom11.below hb12).below hb13).below hb14
  have hB14 := below_on (below_on (below_on hB11 hb12) hb13) hb14
  clear hom11 hb12 hb13 hb14 hB11 h511 ho12 ho13 ho14 hi11 hj11
  go_wp2_with (go_at_call 39; refine (heldF_any _ _ _ _ _ _ _ hom14 hl (by omega) (by omega)).mono ?_; rintro e w' ⟨q15, rfl, rfl⟩)
  go_ret
  exact ⟨rfl, below_drawn hB14 _⟩

set_option maxRecDepth 20000 in
set_option maxHeartbeats 1000000 in
theorem lawFill_no (p : Option Addr) (c : Nat) (xs : List (FV .f32)) (p2 : Option Addr) (c2 : Nat) (ks : List Bool) (w : World) (hin : In32 w p xs) (hinB : InB w p2 ks) (hl : xs.length ≤ 1048576) (hl2 : ks.length ≤ 1048576) (hok : fillOk xs ks = false) :
    Calls Try.prog 9 #[.slice p xs.length c, .slice p2 ks.length c2] (w.drewN 0) (Holds w) := by
  have d1 : decide ((xs.length : Int) > 1048576) = false := decide_eq_false (by omega)
  have d2 : decide ((ks.length : Int) > 1048576) = false := decide_eq_false (by omega)
  have d3 : decide ((1 : Int) + xs.length + ks.length < 0) = false := decide_eq_false (by omega)
  have HOK := Lib.hid hok
  clear hok
  go_enter Try.func9, Try.ntmps9
  go_wp2_with (first
    | (go_at_call 29; refine (toFloat32S_any _ _ _ _ _ hin hl).mono ?_; rintro e w' ⟨b1, w1, n1, rfl, rfl, hb1, ho1⟩)
    | (go_at_call 34; refine (toBoolS_any _ _ _ _ _ (hinB.below hb1) hl2).mono ?_; rintro e w' ⟨b2, w2, n2, rfl, rfl, hb2, ho2⟩))
  go_wp2_with (go_at_call 33; refine (specFill_no _ (ho1.in32.below hb2) ho2.inB hl HOK.out).mono ?_; rintro e w' ⟨p5, c5, w3, n3, rfl, rfl, hb3⟩)
  have hi3 := ((hin.below hb1).below hb2).below hb3
  have hj3 := ((hinB.below hb1).below hb2).below hb3
  have hB3 := below_on (below_on hb1 hb2) hb3
  have HIN := Lib.hid hin
  have HINB := Lib.hid hinB
  clear hin hinB ho1 ho2 hb1 hb2 hb3
  go_wp2_with (first
    | (go_at_call 29; refine (toFloat32S_any _ _ _ _ _ hi3 hl).mono ?_; rintro e w' ⟨bx, w4, n4, rfl, rfl, hb4, hox⟩)
    | (go_at_call 34; refine (toBoolS_any _ _ _ _ _ (hj3.below hb4) hl2).mono ?_; rintro e w' ⟨bk, w5, n5, rfl, rfl, hb5, hok⟩))
  have hox5 := hox.below hb5
  have hi5 := (hi3.below hb4).below hb5
  have hj5 := (hj3.below hb4).below hb5
  have hB5 := below_on (below_on hB3 hb4) hb5
  have hne : bx < bk := Nat.lt_of_lt_of_le hox.lt hok.new
  have hsz : w.heap.size ≤ bx := Nat.le_trans hB3.size hox.new
  clear hox hi3 hj3 hB3 hb4 hb5
  go_wp2_with (first
    | (go_at_call 35; refine (implFill_no _ hox5.in32 hok.inB hl HOK.out).mono ?_; rintro e w' ⟨p9, c9, w6, n6, rfl, rfl, hb6⟩)
    | (go_at_call 31; refine (eqEmpty_any _ _ _ _ _ _).mono ?_; rintro e w' ⟨q6, rfl, rfl⟩))
  have hox6 := hox5.below hb6
  have hok6 := hok.below hb6
  have hi6 := hi5.below hb6
  have hj6 := hj5.below hb6
  have hB6 := below_on hB5 hb6
  clear hox5 hok hi5 hj5 hB5 hb6
  go_wp2_with (first
    | (go_at_call 29; refine (toFloat32S_any _ _ _ _ _ hi6 hl).mono ?_; rintro e w' ⟨b7, w7, n7, rfl, rfl, hb7, ho7⟩)
    | (go_at_call 31; refine (eqFloat32S_any _ _ _ _ _ _ _ (hox6.below hb7).in32 ho7.in32 hl).mono ?_; rintro e w' ⟨q7, rfl, rfl⟩)
    | (go_at_call 34; refine (toBoolS_any _ _ _ _ _ (hj6.below hb7) hl2).mono ?_; rintro e w' ⟨b8, w8, n8, rfl, rfl, hb8, ho8⟩)
    | (go_at_call 36; refine (eqBoolS_any _ _ _ _ _ _ _ ((hok6.below hb7).below hb8).inB ho8.inB hl2).mono ?_; rintro e w' ⟨q8, rfl, rfl⟩))
  have hox8 := (hox6.below hb7).below hb8
  have hok8 := (hok6.below hb7).below hb8
  have hB8 := below_on (below_on hB6 hb7) hb8
  clear hox6 hok6 hi6 hj6 hB6 hb7 hb8 ho7 ho8
  go_wp2_with (go_at_call 37; refine (markF_any _ _ _ _ _ _ _ hox8 hl (by omega) (by omega)).mono ?_; rintro e w' ⟨w9, q9, rfl, rfl, hon9, hom9⟩)
  go_wp2_with (first
    | (go_at_call 38; refine (markB_any _ _ _ _ _ _ _ (hon9.ownB hok8 (by omega)) hl2 (by omega) (by omega)).mono ?_; rintro e w' ⟨w10, q10, rfl, rfl, hon10⟩)
    | (go_at_call 31; refine (eqEmpty_any _ _ _ _ _ _).mono ?_; rintro e w' ⟨q11, rfl, rfl⟩))
  have hB10 := (hB8.trans (hon9.below hsz)).trans (hon10.below (by omega))
  have hi10 := HIN.out.below hB10
  have hj10 := HINB.out.below hB10
  clear hon9 hon10 hB8 hom9 hox8 hok8
  go_wp2_with (first
    | (go_at_call 37; refine (markF_none _ _ _ _ _).mono ?_; rintro e w' ⟨q12, rfl, rfl⟩)
    | (go_at_call 39; refine (heldF_none _ _ _ _ _).mono ?_; rintro e w' ⟨q12, rfl, rfl⟩)
    | (go_at_call 29; refine (toFloat32S_any _ _ _ _ _ hi10 hl).mono ?_; rintro e w' ⟨b12, w12, n12, rfl, rfl, hb12, ho12⟩)
    | (go_at_call 34; refine (toBoolS_any _ _ _ _ _ (hj10.below hb12) hl2).mono ?_; rintro e w' ⟨b13, w13, n13, rfl, rfl, hb13, ho13⟩)
    | (go_at_call 35; refine (implFill_no _ (ho12.in32.below hb13) ho13.inB hl HOK.out).mono ?_; rintro e w' ⟨p14, c14, w14, n14, rfl, rfl, hb14⟩)
    | (go_at_call 31; refine (eqEmpty_any _ _ _ _ _ _).mono ?_; rintro e w' ⟨q14, rfl, rfl⟩))
  have hB14 := below_on (below_on (below_on hB10 hb12) hb13) hb14
  go_ret
  exact ⟨rfl, below_drawn hB14 _⟩

theorem lawFill (p : Option Addr) (c : Nat) (xs : List (FV .f32)) (p2 : Option Addr) (c2 : Nat) (ks : List Bool) (w : World) (hin : In32 w p xs) (hinB : InB w p2 ks) :
    Calls Try.prog 9 #[.slice p xs.length c, .slice p2 ks.length c2] (w.drewN 0) (Holds w) := by
  by_cases hl : xs.length ≤ 1048576
  · by_cases hl2 : ks.length ≤ 1048576
    · cases hok : fillOk xs ks
      · exact lawFill_no p c xs p2 c2 ks w hin hinB hl hl2 hok
      · exact lawFill_yes p c xs p2 c2 ks w hin hinB hl hl2 hok
    · have d1 : decide ((xs.length : Int) > 1048576) = false := decide_eq_false (by omega)
      have d2 : decide ((ks.length : Int) > 1048576) = true := decide_eq_true (by omega)
      go_enter Try.func9, Try.ntmps9
      go_wp2_with (fail)
      go_ret
      exact ⟨rfl, below_drawn (Below.refl _ _) _⟩
  · have d1 : decide ((xs.length : Int) > 1048576) = true := decide_eq_true (by omega)
    go_enter Try.func9, Try.ntmps9
    go_wp2_with (fail)
    go_ret
    exact ⟨rfl, below_drawn (Below.refl _ _) _⟩

end Go.Proofs.Ytnpgpkbnfibkkaa
