/- The walks: rows of records copied and compared. -/
import Derived.Test.YteeficdlpoladaaRb
namespace Go.Proofs.Yteeficdlpoladaa
open Go.RowKit Go.FV

theorem info35 : (Try.prog.info? 35).map (fun i => (i.zero, i.size, i.bytes)) = some (some (.agg #[.string ByteArray.empty, .int .i64 0, .int .i64 0, .slice none 0 0]), 4, 56) := by kernel_rfl

def zeroCells (n : Nat) : Array Value := madeCells (Value.agg #[.string ByteArray.empty, .int .i64 0, .int .i64 0, .slice none 0 0]).cells (n * 4)
theorem zeroCells_size (n : Nat) : (zeroCells n).size = n * 4 := size_madeCells _ _

theorem makeR (n : Nat) (hn : n ≤ 1048576) (W : World) : (Instr.makeSlice 25 (.int .i64 (n : Int)) (.int .i64 (n : Int))).run Try.prog W =
    .ok (.slice (some ⟨W.heap.size, 0, none⟩) n n) (W.alloc (.cells (zeroCells n) 35)) := by
  obtain ⟨i, hi, hz, hs, hb⟩ := info_parts info35
  have h := run_make (P := Try.prog) W 25 35 i _ Try.underlying25 hi hz .i64 .i64 (n : Int) (n : Int) (by omega) (by omega) (by rw [hb]; omega) (by omega)
  rw [h, hs, Int.toNat_natCast]; rfl

/-- A row of n records of the call's own, of which the first are these; the values of each lie past it. -/
structure OwnR (B : Nat) (W : World) (g n : Nat) (rs : List Rec) : Prop where
  new : B ≤ g
  lt : g < W.heap.size
  recs : ∀ (k : Nat) r, rs[k]? = some r → RecOwn W g (k * 4) r
  has : ∀ o, o < n * 4 → ∃ v, W.cell? ⟨g, o, none⟩ = some v
  free : ∀ o, W.frozen? ⟨g, o, none⟩ = false

theorem RecOwn.below {W W1 : World} {g o : Nat} {r : Rec} (h : RecOwn W g o r) (hg : g < W.heap.size) (hb : Below W.heap.size W W1) : RecOwn W1 g o r := by
  obtain ⟨h0, h1, h2, b, c, h3, h4, h5, h6⟩ := h
  refine ⟨?_, ?_, ?_, b, c, ?_, h4, Nat.lt_of_lt_of_le h5 hb.size, h6.below hb h5⟩
  · rw [hb.cell (p := ⟨g, o, none⟩) hg]; exact h0
  · rw [hb.cell (p := ⟨g, o + 1, none⟩) hg]; exact h1
  · rw [hb.cell (p := ⟨g, o + 2, none⟩) hg]; exact h2
  · rw [hb.cell (p := ⟨g, o + 3, none⟩) hg]; exact h3

theorem OwnR.below {B g n : Nat} {W W1 : World} {rs : List Rec} (h : OwnR B W g n rs) (hb : Below W.heap.size W W1) : OwnR B W1 g n rs :=
  ⟨h.new, Nat.lt_of_lt_of_le h.lt hb.size, fun k r hk => (h.recs k r hk).below h.lt hb, fun o ho => by rw [hb.cell (p := ⟨g, o, none⟩) h.lt]; exact h.has o ho, fun o => by rw [hb.frozen (p := ⟨g, o, none⟩) h.lt]; exact h.free o⟩

theorem OwnR.start (w : World) (n : Nat) : OwnR w.heap.size (w.alloc (.cells (zeroCells n) 35)) w.heap.size n [] :=
  ⟨Nat.le_refl _, by simp, fun k r h => by simp at h, fun o ho => by rw [World.cell?_alloc_new]; exact ⟨_, Array.getElem?_eq_getElem (by rw [zeroCells_size]; exact ho)⟩, fun o => World.frozen?_alloc_new w _ 35 o⟩

/-- A record more. -/
theorem OwnR.put {B g n b c : Nat} {W : World} {rs : List Rec} {r : Rec} (h : OwnR B W g n rs) (hn : rs.length < n) (hgb : g < b) (hb : b < W.heap.size) (hr : Row32 W b 0 r.vals) :
    OwnR B (put4 W g (rs.length * 4) (.string r.name) (.int .i64 r.start) (.int .i64 r.step) (.slice (some ⟨b, 0, none⟩) r.vals.length c)) g n (rs ++ [r]) := by
  have row : ∀ {b' : Nat} {xs : List (FV .f32)}, g < b' → Row32 W b' 0 xs → Row32 (put4 W g (rs.length * 4) (.string r.name) (.int .i64 r.start) (.int .i64 r.step) (.slice (some ⟨b, 0, none⟩) r.vals.length c)) b' 0 xs := by
    intro b' xs hgb' hr' k x hx
    obtain ⟨j, hj⟩ := hr' k x hx
    exact ⟨j, by rw [put4_far (by omega)]; exact hj⟩
  have cells := put4_cells (W := W) (g := g) (o := rs.length * 4) (v0 := Value.string r.name) (v1 := Value.int IntKind.i64 r.start) (v2 := Value.int IntKind.i64 r.step) (v3 := Value.slice (some ⟨b, 0, none⟩) r.vals.length c) (fun i hi => h.has _ (by omega))
  refine ⟨h.new, by rw [put4_size]; exact h.lt, fun k x hk => ?_, fun o ho => ?_, fun o => by rw [put4_frozen]; exact h.free o⟩
  · by_cases hkl : k < rs.length
    · rw [List.getElem?_append_left hkl] at hk
      obtain ⟨h0, h1, h2, b', c', h3, h4, h5, h6⟩ := h.recs k x hk
      exact ⟨by rw [put4_far (by omega)]; exact h0, by rw [put4_far (by omega)]; exact h1, by rw [put4_far (by omega)]; exact h2, b', c', by rw [put4_far (by omega)]; exact h3, h4, by rw [put4_size]; exact h5, row h4 h6⟩
    · rw [List.getElem?_append_right (by omega)] at hk
      obtain ⟨hk1, hx⟩ := List.getElem?_eq_some_iff.1 hk
      have hk0 : k = rs.length := by rw [List.length_singleton] at hk1; omega
      subst hk0
      obtain rfl : r = x := by simpa using hx
      exact ⟨cells.1, cells.2.1, cells.2.2.1, b, c, cells.2.2.2, hgb, by rw [put4_size]; exact hb, row hgb hr⟩
  · by_cases hin : rs.length * 4 ≤ o ∧ o < rs.length * 4 + 4
    · obtain ⟨i, rfl⟩ : ∃ i, o = rs.length * 4 + i := ⟨o - rs.length * 4, by omega⟩
      match i, hin with
      | 0, _ => exact ⟨_, cells.1⟩
      | 1, _ => exact ⟨_, cells.2.1⟩
      | 2, _ => exact ⟨_, cells.2.2.1⟩
      | 3, _ => exact ⟨_, cells.2.2.2⟩
      | i + 4, h' => omega
    · rw [put4_far (by omega)]; exact h.has o ho

theorem OwnR.inR {B g n : Nat} {W : World} {rs : List Rec} (h : OwnR B W g n rs) : InR W (some ⟨g, 0, none⟩) rs := fun _ =>
  ⟨g, 0, rfl, h.lt, fun k r hk => by
    obtain ⟨h0, h1, h2, b, c, h3, h4, h5, h6⟩ := h.recs k r hk
    rw [Nat.zero_add]
    exact ⟨h0, h1, h2, _, _, h3, fun _ => ⟨b, 0, rfl, h5, h6⟩⟩⟩

def NewR (rs : List Rec) (w : World) (e : Ending) (w' : World) : Prop :=
  ∃ g W n, e = .returned (.slice (some ⟨g, 0, none⟩) rs.length rs.length) ∧ w' = W.drewN n ∧ Below w.heap.size w W ∧ InR W (some ⟨g, 0, none⟩) rs ∧ w.heap.size ≤ g ∧ g < W.heap.size

set_option maxHeartbeats 400000 in
theorem toRecordS_any (p : Option Addr) (c : Nat) (rs : List Rec) (w : World) (m : Nat) (hin : InR w p rs) (hs : Small rs) :
    Calls Try.prog 7 #[.slice p rs.length c] (w.drewN m) (NewR rs w) := by
  have hmk := makeR rs.length hs.1
  have hn : rs.length ≤ 1048576 := hs.1
  have HI := Lib.hid hin
  have HS := Lib.hid hs
  clear hin hs
  go_enter Try.func7, Try.ntmps7
  go_wp2_with (fail)
  clear hmk
  go_loopw [4] (fun k wr => ∃ (n q : Nat) (W : World), n ≤ rs.length ∧ k = .int .i64 n ∧ wr = W.drewN q ∧ Hid (Below w.heap.size w W ∧ OwnR w.heap.size W w.heap.size rs.length (rs.take n))) (fun k _ => rs.length - (intOf k).toNat)
  case atStart => exact ⟨0, _, _, Nat.zero_le _, rfl, rfl, (Below.refl _ _).alloc (Nat.le_refl _) _, OwnR.start w rs.length⟩
  case round =>
    obtain ⟨n, q, W, hnl, rfl, rfl, HH⟩ := hrel
    by_cases hlt : n < rs.length
    · obtain ⟨b, off, rfl, hb, hrow⟩ := (HI.out.below HH.out.1) (by intro e; rw [e] at hlt; simp at hlt)
      obtain ⟨c0, c1, c2, pv, cv, c3, hi⟩ := hrow n rs[n] (List.getElem?_eq_getElem hlt)
      have HX := Lib.hid (List.getElem?_eq_getElem hlt)
      have HM := Lib.hid (HS.out.2 rs[n] (List.getElem_mem hlt))
      have HV := Lib.hid hi
      clear hrow hi
      generalize rs[n] = r at *
      go_wp2_with (go_at_call 14; refine (toRecord_any r _ _ _ _ HV.out HM.out.2).mono ?_; rintro e w' ⟨bv, cv2, W2, q2, rfl, rfl, hb2, hnew, hblt, hrow⟩; have HB2 := Lib.hid hb2; have HR2 := Lib.hid hrow; have hO := HH.out.2.below hb2; have hfr := hO.free; obtain ⟨z0, hz0⟩ := hO.has (n * 4) (by omega); obtain ⟨z1, hz1⟩ := hO.has (n * 4 + 1) (by omega); obtain ⟨z2, hz2⟩ := hO.has (n * 4 + 2) (by omega); obtain ⟨z3, hz3⟩ := hO.has (n * 4 + 3) (by omega); clear hb2 hrow hO; unfold recVal)
      go_roundw
      case rel =>
        have hO := HH.out.2.below HB2.out
        have hlen : (rs.take n).length = n := by rw [List.length_take]; omega
        have hput := hO.put (c := cv2) (by rw [hlen]; exact hlt) (Nat.lt_of_lt_of_le HH.out.2.lt hnew) hblt HR2.out
        have htk : rs.take n ++ [r] = rs.take (n + 1) := by rw [List.take_add_one, HX.out]; rfl
        rw [htk, hlen] at hput
        exact ⟨n + 1, _, _, by omega, by go_num, rfl, put4_below (HH.out.1.trans (HB2.out.mono HH.out.1.size)) (Nat.le_refl _), hput⟩
      case measure => simp [intOf]; omega
    · obtain rfl : n = rs.length := by omega
      go_wp2_with (fail)
      go_ret
      have hO := HH.out.2
      rw [List.take_length] at hO
      exact ⟨_, W, _, rfl, rfl, HH.out.1, hO.inR, Nat.le_refl _, hO.lt⟩
end Go.Proofs.Yteeficdlpoladaa
