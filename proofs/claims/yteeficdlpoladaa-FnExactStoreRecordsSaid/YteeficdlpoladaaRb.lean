/- The walks: records counted and copied. -/
import Derived.Test.YteeficdlpoladaaRa
namespace Go.Proofs.Yteeficdlpoladaa
open Go.RowKit Go.FV

/-- A record: its name, its start, its step, its values. -/
structure Rec where
  name : ByteArray
  start : Int
  step : Int
  vals : List (FV .f32)

/-- A record lies at this place. -/
def RecAt (w : World) (b o : Nat) (r : Rec) : Prop :=
  w.cell? ⟨b, o, none⟩ = some (.string r.name) ∧ w.cell? ⟨b, o + 1, none⟩ = some (.int .i64 r.start) ∧ w.cell? ⟨b, o + 2, none⟩ = some (.int .i64 r.step) ∧
    ∃ p c, w.cell? ⟨b, o + 3, none⟩ = some (.slice p r.vals.length c) ∧ In32 w p r.vals

theorem RecAt.below {w w1 : World} {b o : Nat} {r : Rec} (h : RecAt w b o r) (hlt : b < w.heap.size) (hb : Below w.heap.size w w1) : RecAt w1 b o r := by
  obtain ⟨h0, h1, h2, p, c, h3, hi⟩ := h
  refine ⟨?_, ?_, ?_, p, c, ?_, hi.below hb⟩
  · rw [hb.cell (p := ⟨b, o, none⟩) hlt]; exact h0
  · rw [hb.cell (p := ⟨b, o + 1, none⟩) hlt]; exact h1
  · rw [hb.cell (p := ⟨b, o + 2, none⟩) hlt]; exact h2
  · rw [hb.cell (p := ⟨b, o + 3, none⟩) hlt]; exact h3

/-- A row of records. -/
def RowR (w : World) (b off : Nat) (rs : List Rec) : Prop := ∀ (k : Nat) r, rs[k]? = some r → RecAt w b (off + k * 4) r
def InR (w : World) (p : Option Addr) (rs : List Rec) : Prop := rs ≠ [] → ∃ b off, p = some ⟨b, off, none⟩ ∧ b < w.heap.size ∧ RowR w b off rs

theorem InR.below {w w1 : World} {p : Option Addr} {rs : List Rec} (h : InR w p rs) (hb : Below w.heap.size w w1) : InR w1 p rs := fun hne => by
  obtain ⟨b, off, hp, hlt, hr⟩ := h hne
  exact ⟨b, off, hp, Nat.lt_of_lt_of_le hlt hb.size, fun k r hk => (hr k r hk).below hlt hb⟩


/-- What is left of a budget; where it is not negative, everything was small. -/
def Left (P : Prop) (left : Int) (w : World) (e : Ending) (w' : World) : Prop := ∃ (i : Int) (W : World) (q : Nat), e = .returned (.int .i64 i) ∧ w' = W.drewN q ∧ Below w.heap.size w W ∧ i ≤ left ∧ -1 ≤ i ∧ (0 ≤ i → P)

theorem szFloat32S_any (p : Option Addr) (n c : Nat) (left : Int) (w : World) (m : Nat) (hn : n ≤ maxLen) (h0 : 0 ≤ left) (h1 : left ≤ 1048576) :
    Calls Try.prog 25 #[.slice p n c, .int .i64 left] (w.drewN m) (Left ((n : Int) ≤ left) left w) := by
  unfold maxLen at hn
  by_cases h : left - n < 0
  all_goals
    go_enter Try.func25, Try.ntmps25
    go_wp2_with (fail)
    go_ret
    refine ⟨_, w, _, rfl, rfl, Below.refl _ _, ?_, ?_, fun h => ?_⟩ <;> omega

def recVal (r : Rec) (p : Option Addr) (c : Nat) : Value := .agg #[.string r.name, .int .i64 r.start, .int .i64 r.step, .slice p r.vals.length c]

theorem szRecord_any (r : Rec) (p : Option Addr) (c : Nat) (left : Int) (w : World) (m : Nat) (hs : r.name.size ≤ maxLen) (hn : r.vals.length ≤ maxLen) (h0 : 0 ≤ left) (h1 : left ≤ 1048576) :
    Calls Try.prog 12 #[recVal r p c, .int .i64 left] (w.drewN m) (Left ((r.name.size : Int) ≤ left ∧ (r.vals.length : Int) ≤ left) left w) := by
  have hs' : r.name.size ≤ 9223372036854775807 := hs
  unfold recVal
  by_cases h : left - r.name.size < 0
  · go_enter Try.func12, Try.ntmps12
    go_wp2_with (fail)
    go_ret
    exact ⟨-1, _, _, rfl, rfl, (Below.refl _ _).alloc (Nat.le_refl _) _, by omega, by omega, fun h => by omega⟩
  · go_enter Try.func12, Try.ntmps12
    go_wp2_with (go_at_call 25; refine (szFloat32S_any _ _ _ _ _ _ hn (by omega) (by omega)).mono ?_; rintro e w' ⟨i, W, q, rfl, rfl, hb, hi, hi2, hp⟩; have HB := Lib.hid hb; have HP := Lib.hid hp; clear hb hp)
    all_goals
      go_ret
      refine ⟨_, W, _, rfl, rfl, ((Below.refl _ _).alloc (Nat.le_refl _) _).trans (HB.out.mono (by simp)), ?_, ?_, fun h => ?_⟩
    · omega
    · omega
    · omega
    · omega
    · omega
    · have := HP.out (by omega); omega

/-- Small enough for the law to speak of. -/
def Small (rs : List Rec) : Prop := rs.length ≤ 1048576 ∧ ∀ r ∈ rs, r.name.size ≤ 1048576 ∧ r.vals.length ≤ 1048576
def Sane (rs : List Rec) : Prop := rs.length ≤ maxLen ∧ ∀ r ∈ rs, r.name.size ≤ maxLen ∧ r.vals.length ≤ maxLen

set_option maxHeartbeats 400000 in
theorem szRecordS_any (p : Option Addr) (c : Nat) (rs : List Rec) (left : Int) (w : World) (m : Nat) (hin : InR w p rs) (hs : Sane rs) (h0 : 0 ≤ left) (h1 : left ≤ 1048576) :
    Calls Try.prog 5 #[.slice p rs.length c, .int .i64 left] (w.drewN m) (Left (Small rs) left w) := by
  have hn : rs.length ≤ 9223372036854775807 := hs.1
  have HI := Lib.hid hin
  have HS := Lib.hid hs
  clear hin hs
  by_cases h : left - rs.length < 0
  · go_enter Try.func5, Try.ntmps5
    go_wp2_with (fail)
    go_ret
    exact ⟨-1, w, _, rfl, rfl, Below.refl _ _, by omega, by omega, fun h => by omega⟩
  · go_enter Try.func5, Try.ntmps5
    go_wp2_with (fail)
    go_loopw [1, 5] (fun l k wr => ∃ (n q : Nat) (W : World) (i : Int), n ≤ rs.length ∧ k = .int .i64 n ∧ l = .int .i64 i ∧ 0 ≤ i ∧ i ≤ left ∧ wr = W.drewN q ∧ Hid (Below w.heap.size w W ∧ ∀ r ∈ rs.take n, r.name.size ≤ 1048576 ∧ r.vals.length ≤ 1048576)) (fun _ k _ => rs.length - (intOf k).toNat)
    case atStart => exact ⟨0, _, w, _, Nat.zero_le _, rfl, rfl, by omega, by omega, rfl, Below.refl _ _, fun r hr => by simp at hr⟩
    case round =>
      obtain ⟨n, q, W, i, hnl, rfl, rfl, hi0, hi1, rfl, HH⟩ := hrel
      by_cases hlt : n < rs.length
      · obtain ⟨b, off, rfl, hb, hrow⟩ := (HI.out.below HH.out.1) (by intro e; rw [e] at hlt; simp at hlt)
        obtain ⟨c0, c1, c2, pv, cv, c3, hi⟩ := hrow n rs[n] (List.getElem?_eq_getElem hlt)
        have HX := Lib.hid (List.getElem?_eq_getElem hlt)
        have HM := Lib.hid (HS.out.2 rs[n] (List.getElem_mem hlt))
        clear hrow hi
        generalize rs[n] = r at *
        go_wp2_with (go_at_call 12; refine (szRecord_any r _ _ _ _ _ HM.out.1 HM.out.2 (by omega) (by omega)).mono ?_; rintro e w' ⟨i2, W2, q2, rfl, rfl, hb2, hi2, hi3, hp⟩; have HB := Lib.hid hb2; have HP := Lib.hid hp; clear hb2 hp)
        · go_ret
          exact ⟨-1, W2, _, rfl, rfl, HH.out.1.trans (HB.out.mono HH.out.1.size), by omega, by omega, fun h => by omega⟩
        · go_roundw
          case rel =>
            refine ⟨n + 1, _, W2, _, by omega, by go_num, rfl, by omega, by omega, rfl, HH.out.1.trans (HB.out.mono HH.out.1.size), fun r' hr => ?_⟩
            rw [List.take_add_one, HX.out] at hr
            rcases List.mem_append.1 hr with h' | h'
            · exact HH.out.2 r' h'
            · obtain rfl : r' = r := by simpa using h'
              have := HP.out (by omega)
              omega
          case measure => simp [intOf]; omega
      · obtain rfl : n = rs.length := by omega
        go_wp2_with (fail)
        go_ret
        refine ⟨_, W, _, rfl, rfl, HH.out.1, hi1, by omega, fun _ => ⟨by omega, ?_⟩⟩
        have := HH.out.2
        rwa [List.take_length] at this

/-- A record of the call's own, whose values lie past block g. -/
def RecOwn (W : World) (g o : Nat) (r : Rec) : Prop :=
  W.cell? ⟨g, o, none⟩ = some (.string r.name) ∧ W.cell? ⟨g, o + 1, none⟩ = some (.int .i64 r.start) ∧ W.cell? ⟨g, o + 2, none⟩ = some (.int .i64 r.step) ∧
    ∃ b c, W.cell? ⟨g, o + 3, none⟩ = some (.slice (some ⟨b, 0, none⟩) r.vals.length c) ∧ g < b ∧ b < W.heap.size ∧ Row32 W b 0 r.vals

/-- A record handed back: its values in new memory. -/
def NewRec (r : Rec) (w : World) (e : Ending) (w' : World) : Prop :=
  ∃ b c W n, e = .returned (recVal r (some ⟨b, 0, none⟩) c) ∧ w' = W.drewN n ∧ Below w.heap.size w W ∧ w.heap.size ≤ b ∧ b < W.heap.size ∧ Row32 W b 0 r.vals

theorem bcell {W w1 : World} (hb : Below W.heap.size W w1) : (∀ b o, b < W.heap.size → w1.cell? ⟨b, o, none⟩ = W.cell? ⟨b, o, none⟩) ∧ (∀ b o, b < W.heap.size → w1.frozen? ⟨b, o, none⟩ = W.frozen? ⟨b, o, none⟩) :=
  ⟨fun b o h => hb.cell (p := ⟨b, o, none⟩) h, fun b o h => hb.frozen (p := ⟨b, o, none⟩) h⟩

theorem cell_other {W : World} {g o g' o' : Nat} (v : Value) (h : g ≠ g' ∨ o ≠ o') : (W.setCell ⟨g, o, none⟩ v).cell? ⟨g', o', none⟩ = W.cell? ⟨g', o', none⟩ :=
  World.cell?_setCell_other (h := fun e => by rcases h with h | h; exact h (congrArg Addr.block e); exact h (congrArg Addr.off e)) ..

/-- Four cells stored. -/
def put4 (W : World) (g o : Nat) (v0 v1 v2 v3 : Value) : World := (((W.setCell ⟨g, o, none⟩ v0).setCell ⟨g, o + 1, none⟩ v1).setCell ⟨g, o + 2, none⟩ v2).setCell ⟨g, o + 3, none⟩ v3
theorem put4_far {W : World} {g o g' o' : Nat} {v0 v1 v2 v3 : Value} (h : g ≠ g' ∨ o' < o ∨ o + 4 ≤ o') : (put4 W g o v0 v1 v2 v3).cell? ⟨g', o', none⟩ = W.cell? ⟨g', o', none⟩ := by
  unfold put4
  rw [cell_other _ (by omega), cell_other _ (by omega), cell_other _ (by omega), cell_other _ (by omega)]
theorem put4_cells {W : World} {g o : Nat} {v0 v1 v2 v3 : Value} (h : ∀ i, i < 4 → ∃ u, W.cell? ⟨g, o + i, none⟩ = some u) :
    (put4 W g o v0 v1 v2 v3).cell? ⟨g, o, none⟩ = some v0 ∧ (put4 W g o v0 v1 v2 v3).cell? ⟨g, o + 1, none⟩ = some v1 ∧ (put4 W g o v0 v1 v2 v3).cell? ⟨g, o + 2, none⟩ = some v2 ∧ (put4 W g o v0 v1 v2 v3).cell? ⟨g, o + 3, none⟩ = some v3 := by
  obtain ⟨u0, h0⟩ := h 0 (by omega)
  obtain ⟨u1, h1⟩ := h 1 (by omega)
  obtain ⟨u2, h2⟩ := h 2 (by omega)
  obtain ⟨u3, h3⟩ := h 3 (by omega)
  rw [Nat.add_zero] at h0
  unfold put4
  refine ⟨?_, ?_, ?_, ?_⟩
  · rw [cell_other _ (by omega), cell_other _ (by omega), cell_other _ (by omega)]
    exact World.cell?_setCell_same (h := h0) ..
  · rw [cell_other _ (by omega), cell_other _ (by omega)]
    exact World.cell?_setCell_same (h := by rw [cell_other _ (by omega)]; exact h1) ..
  · rw [cell_other _ (by omega)]
    exact World.cell?_setCell_same (h := by rw [cell_other _ (by omega), cell_other _ (by omega)]; exact h2) ..
  · exact World.cell?_setCell_same (h := by rw [cell_other _ (by omega), cell_other _ (by omega), cell_other _ (by omega)]; exact h3) ..
theorem put4_below {B : Nat} {w W : World} {g o : Nat} {v0 v1 v2 v3 : Value} (h : Below B w W) (hg : B ≤ g) : Below B w (put4 W g o v0 v1 v2 v3) :=
  (((h.setCell (p := ⟨g, o, none⟩) hg _).setCell (p := ⟨g, o + 1, none⟩) hg _).setCell (p := ⟨g, o + 2, none⟩) hg _).setCell (p := ⟨g, o + 3, none⟩) hg _
theorem put4_size {W : World} {g o : Nat} {v0 v1 v2 v3 : Value} : (put4 W g o v0 v1 v2 v3).heap.size = W.heap.size := by unfold put4; simp [World.setCell]
theorem put4_frozen {W : World} {g o : Nat} {v0 v1 v2 v3 : Value} (a : Addr) : (put4 W g o v0 v1 v2 v3).frozen? a = W.frozen? a := by unfold put4; simp [World.frozen?_setCell]
theorem put4_zero (W : World) (g : Nat) (v0 v1 v2 v3 : Value) : put4 W g 0 v0 v1 v2 v3 = (((W.setCell ⟨g, 0, none⟩ v0).setCell ⟨g, 1, none⟩ v1).setCell ⟨g, 2, none⟩ v2).setCell ⟨g, 3, none⟩ v3 := rfl

set_option maxHeartbeats 400000 in
theorem toRecord_any (r : Rec) (p : Option Addr) (c : Nat) (w : World) (m : Nat) (hin : In32 w p r.vals) (hl : r.vals.length ≤ 1048576) :
    Calls Try.prog 14 #[recVal r p c] (w.drewN m) (NewRec r w) := by
  have HI := Lib.hid hin
  clear hin
  unfold recVal
  go_enter Try.func14, Try.ntmps14
  go_wp2_with (go_at_call 27; refine (toFloat32S_any p c r.vals _ _ (HI.out.below ?_) hl).mono ?_; rotate_left; rintro e w' ⟨b, W1, n, rfl, rfl, hb, ho⟩; have HB := Lib.hid hb; have HO := Lib.hid ho; obtain ⟨hc, hf⟩ := bcell hb; clear hb ho)
  · have hsz : w.heap.size + 1 + 1 + 1 ≤ W1.heap.size := by have := HB.out.size; simp at this; omega
    have hnew : w.heap.size + 1 + 1 + 1 ≤ b := by have := HO.out.new; simp at this; omega
    have hlt := HO.out.lt
    have hrow := HO.out.row
    have hb0 : Below w.heap.size w W1 := (((((Below.refl _ _).alloc (Nat.le_refl _) _).alloc (by simp) _).alloc (by simp only [World.size_alloc]; omega) _).trans (HB.out.mono (by simp; omega)))
    have hcells : ∀ i, i < 4 → ∃ u, W1.cell? ⟨w.heap.size + 1, i, none⟩ = some u := by
      intro i hi
      rw [hc _ _ (by simp only [World.size_alloc]; omega), World.cell?_alloc_old _ _ _ (by simp only [World.size_alloc]; omega)]
      have := World.cell?_alloc_new (w.alloc (Obj.cells #[Value.string r.name, Value.int IntKind.i64 r.start, Value.int IntKind.i64 r.step, Value.slice p r.vals.length c] 34)) #[Value.string ⟨#[]⟩, Value.int IntKind.i64 0, Value.int IntKind.i64 0, Value.slice none 0 0] 35 (i := i)
      rw [World.size_alloc] at this
      rw [this]
      exact ⟨_, Array.getElem?_eq_getElem (by simpa using hi)⟩
    clear hc hf
    rw [← put4_zero (W1.setCell ⟨w.heap.size + 1 + 1, 3, none⟩ _)]
    have hp := put4_cells (W := W1.setCell ⟨w.heap.size + 1 + 1, 3, none⟩ (Value.slice (some ⟨b, 0, none⟩) r.vals.length r.vals.length)) (g := w.heap.size + 1) (o := 0) (v0 := Value.string r.name) (v1 := Value.int IntKind.i64 r.start) (v2 := Value.int IntKind.i64 r.step) (v3 := Value.slice (some ⟨b, 0, none⟩) r.vals.length r.vals.length)
      (fun i hi => by rw [cell_other _ (by omega), Nat.zero_add]; exact hcells i hi)
    have hb1 : Below w.heap.size w (put4 (W1.setCell ⟨w.heap.size + 1 + 1, 3, none⟩ (Value.slice (some ⟨b, 0, none⟩) r.vals.length r.vals.length)) (w.heap.size + 1) 0 (Value.string r.name) (Value.int IntKind.i64 r.start) (Value.int IntKind.i64 r.step) (Value.slice (some ⟨b, 0, none⟩) r.vals.length r.vals.length)) :=
      put4_below (hb0.setCell (p := ⟨w.heap.size + 1 + 1, 3, none⟩) (by show w.heap.size ≤ w.heap.size + 1 + 1; omega) _) (by omega)
    have hsz2 : b < (put4 (W1.setCell ⟨w.heap.size + 1 + 1, 3, none⟩ (Value.slice (some ⟨b, 0, none⟩) r.vals.length r.vals.length)) (w.heap.size + 1) 0 (Value.string r.name) (Value.int IntKind.i64 r.start) (Value.int IntKind.i64 r.step) (Value.slice (some ⟨b, 0, none⟩) r.vals.length r.vals.length)).heap.size := by rw [put4_size]; simpa [World.setCell] using hlt
    have hrow2 : Row32 (put4 (W1.setCell ⟨w.heap.size + 1 + 1, 3, none⟩ (Value.slice (some ⟨b, 0, none⟩) r.vals.length r.vals.length)) (w.heap.size + 1) 0 (Value.string r.name) (Value.int IntKind.i64 r.start) (Value.int IntKind.i64 r.step) (Value.slice (some ⟨b, 0, none⟩) r.vals.length r.vals.length)) b 0 r.vals := by
      intro k x hx
      obtain ⟨j, hj⟩ := hrow k x hx
      exact ⟨j, by rw [put4_far (by omega), cell_other _ (by omega)]; exact hj⟩
    generalize put4 (W1.setCell ⟨w.heap.size + 1 + 1, 3, none⟩ (Value.slice (some ⟨b, 0, none⟩) r.vals.length r.vals.length)) (w.heap.size + 1) 0 (Value.string r.name) (Value.int IntKind.i64 r.start) (Value.int IntKind.i64 r.step) (Value.slice (some ⟨b, 0, none⟩) r.vals.length r.vals.length) = Wf at *
    obtain ⟨p0, p1, p2, p3⟩ := hp
    simp only [Nat.zero_add] at p1 p2 p3
    exact bodyPost_ret (v := recVal r (some ⟨b, 0, none⟩) r.vals.length) (by simp [results, Try.results14, go_sem, recVal, p0, p1, p2, p3]) rfl ⟨b, r.vals.length, Wf, _, rfl, rfl, hb1, by omega, hsz2, hrow2⟩
  · exact (((Below.refl _ _).alloc (Nat.le_refl _) _).alloc (by simp) _).alloc (by simp only [World.size_alloc]; omega) _
end Go.Proofs.Yteeficdlpoladaa
