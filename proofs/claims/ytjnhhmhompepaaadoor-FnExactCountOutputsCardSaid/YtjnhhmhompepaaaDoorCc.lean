/- The walks: lines counted, by the reference and by the program. -/
import Derived.Test.YtjnhhmhompepaaaDoorCb
import Derived.Test.YtjnhhmhompepaaaDoorSh
namespace Go.Proofs.YtjnhhmhompepaaaDoor
open Go.RowKit Go.Cutting

/-- What stands ahead of the last piece, and that one. -/
def ahead (s : ByteArray) : List ByteArray := (pieces 10 s).take ((pieces 10 s).length - 1)
def lastP (s : ByteArray) : ByteArray := (pieces 10 s).getD ((pieces 10 s).length - 1) ByteArray.empty
theorem ahead_length (s : ByteArray) : (ahead s).length = (pieces 10 s).length - 1 := by unfold ahead; rw [List.length_take]; omega
theorem last_get (s : ByteArray) : (pieces 10 s)[(pieces 10 s).length - 1]? = some (lastP s) := by
  have h := pieces_length 10 s
  unfold lastP
  rw [List.getD_eq_getElem?_getD]
  rw [List.getElem?_eq_getElem (by omega)]; rfl
theorem ahead_get {s : ByteArray} {k : Nat} {x : ByteArray} (h : (ahead s)[k]? = some x) : (pieces 10 s)[k]? = some x := by
  unfold ahead at h
  rw [List.getElem?_take] at h
  split at h
  · exact h
  · cases h

def LinesOf (s : ByteArray) (w : World) (e : Ending) (w' : World) : Prop :=
  ∃ g c W n, e = .returned (.tuple #[.slice (some ⟨g, 0, none⟩) (ahead s).length c, .string (lastP s)]) ∧ w' = W.drewN n ∧ Below w.heap.size w W ∧ Reads W g (ahead s)

set_option maxHeartbeats 400000 in
theorem l08Lines_any (s : ByteArray) (w : World) (m : Nat) (hs : s.size ≤ 1048576) :
    Calls Tryd.prog 6 #[.string s] (w.drewN m) (LinesOf s w) := by
  go_enter Tryd.func6, Tryd.ntmps6
  go_wp2_with (go_at_call 8; refine (l01Cut_any _ _ _ hs).mono ?_; rintro e w' ⟨v, W, n, rfl, rfl, hg⟩; have HG := Lib.hid hg; clear hg)
  obtain ⟨g, c, rfl, hc1, hc2, hr⟩ := HG.out.reads (pieces_ne _ _)
  have hl := pieces_length 10 s
  have hcell := hr _ _ (last_get s)
  have e1 : (((pieces 10 s).length : Int) - 1) = (((pieces 10 s).length - 1 : Nat) : Int) := by omega
  go_wp2_with (fail)
  go_quiet (fail)
  go_wp2_with (fail)
  go_ret2
  exact ⟨g, c, W, _, by rw [ahead_length]; rfl, by first | rfl | exact World.drewN_drewN .., HG.out.1, fun k x hk => hr k x (ahead_get hk)⟩

theorem split_any (s : ByteArray) (k : Nat) (hk : (pieces 10 s).length = k + 1) (w : World) (m : Nat) (z : Int) (hs : s.size ≤ 1048576) (hz : w.cell? ⟨0, 0, none⟩ = some (.int .i64 z)) :
    Calls Tryd.prog 9 #[.string s, .string ⟨#[10]⟩] (w.drewN m) fun e w' => ∃ g W, e = .returned (.slice (some ⟨g, 0, none⟩) (k + 1) (k + 1)) ∧ w' = W.drewN m ∧ Below w.heap.size w W ∧ Reads W g (pieces 10 s) := by
  have hl := Lib.splitB_all ⟨#[10]⟩ (by decide) 0 _ s rfl
  rw [split_pieces, hk] at hl
  refine (Tryd.strings_Split s ⟨#[10]⟩ z (w.drewN m) (by omega) hz (by decide)).mono ?_
  rintro e w' ⟨rfl, rfl⟩
  rw [split_pieces]
  refine ⟨w.heap.size, w.alloc (.cells ((pieces 10 s).map Value.string).toArray 9), by rw [← hl]; rfl, rfl, (Below.refl _ _).alloc (Nat.le_refl _) _, fun k x hx => ?_⟩
  rw [World.cell?_alloc_new]
  show ((pieces 10 s).map Value.string).toArray[k]? = _
  rw [List.getElem?_toArray, List.getElem?_map, hx]; rfl

def okLines (s : ByteArray) : Bool := decide ((s.size : Int) ≤ 16000) && (lastP s).toList.isEmpty

def LinesOk (s : ByteArray) (w : World) (e : Ending) (w' : World) : Prop :=
  ∃ g c W n, e = .returned (.tuple #[.slice (some ⟨g, 0, none⟩) (ahead s).length c, .bool (okLines s)]) ∧ w' = W.drewN n ∧ Below w.heap.size w W ∧ Reads W g (ahead s)

set_option maxHeartbeats 400000 in
theorem linesOf_any (s : ByteArray) (w : World) (m : Nat) (z : Int) (hs : s.size ≤ 1048576) (hz : w.cell? ⟨0, 0, none⟩ = some (.int .i64 z)) :
    Calls Tryd.prog 7 #[.string s] (w.drewN m) (LinesOk s w) := by
  have hl := pieces_length 10 s
  obtain ⟨k, hk⟩ : ∃ k, (pieces 10 s).length = k + 1 := ⟨(pieces 10 s).length - 1, by omega⟩
  have hk2 : k ≤ 1048576 := by omega
  have HK := Lib.hid hk
  have HZ := Lib.hid hz
  clear hz hk hl
  cases h1 : decide ((s.size : Int) ≤ 16000)
  all_goals
    have H1 := Lib.hid h1
    go_enter Tryd.func7, Tryd.ntmps7
    go_wp2_with (go_at_call 9; refine (split_any _ k HK.out _ _ _ hs HZ.out).mono ?_; rintro e w' ⟨g, W, rfl, rfl, hb, hr⟩; have HR := Lib.hid hr; have HB := Lib.hid hb; clear hr hb)
    have hcell := HR.out _ _ (last_get s)
    rw [HK.out, Nat.add_sub_cancel] at hcell
    go_quiet (fail)
    go_wp2_with (fail)
    go_ret2
    exact ⟨g, k + 1, W, _, by rw [ahead_length, HK.out, Nat.add_sub_cancel, okLines, H1.out]; rfl, by first | rfl | exact World.drewN_drewN .., HB.out, fun k x hk => HR.out k x (ahead_get hk)⟩

/-- No lines, or how many are bad and how many are good. -/
def CountRes (s : ByteArray) : Value :=
  if okLines s = true then .tuple #[.int .i64 (bad (ahead s)), .int .i64 ((ahead s).length - bad (ahead s)), .bool true] else .tuple #[.int .i64 0, .int .i64 0, .bool false]
def CountEnd (s : ByteArray) (w : World) (e : Ending) (w' : World) : Prop := ∃ W n, e = .returned (CountRes s) ∧ w' = W.drewN n ∧ Below w.heap.size w W

theorem int_eq {a b : Int} (h : a = b) : Value.int .i64 a = Value.int .i64 b := by rw [h]

theorem bad_cases (x : ByteArray) : (x.toList = [110, 111] ∧ isBad x = true) ∨ (x.toList ≠ [110, 111] ∧ (x.toList == [110, 111]) = false ∧ x.toList = [119, 104, 97, 116] ∧ isBad x = true) ∨ (x.toList ≠ [110, 111] ∧ (x.toList == [110, 111]) = false ∧ x.toList ≠ [119, 104, 97, 116] ∧ (x.toList == [119, 104, 97, 116]) = false ∧ isBad x = false) := by
  unfold isBad
  by_cases e1 : x.toList = [110, 111]
  · exact .inl ⟨e1, by rw [e1]; rfl⟩
  · by_cases e2 : x.toList = [119, 104, 97, 116]
    · exact .inr (.inl ⟨e1, by simpa using e1, e2, by rw [e2]; rfl⟩)
    · exact .inr (.inr ⟨e1, by simpa using e1, e2, by simpa using e2, by simp [e1, e2]⟩)

set_option maxHeartbeats 400000 in
theorem implCount_any (s : ByteArray) (w : World) (m : Nat) (z : Int) (hs : s.size ≤ 1048576) (hz : w.cell? ⟨0, 0, none⟩ = some (.int .i64 z)) :
    Calls Tryd.prog 5 #[.string s] (w.drewN m) (CountEnd s w) := by
  have hl := pieces_length 10 s
  have hal := ahead_length s
  have hal2 : (ahead s).length ≤ 1048576 := by omega
  have HZ := Lib.hid hz
  clear hz hl hal
  cases h1 : okLines s
  · have H1 := Lib.hid h1
    clear h1
    go_enter Tryd.func5, Tryd.ntmps5
    go_wp2_with (go_at_call 7; refine (linesOf_any _ _ _ _ hs HZ.out).mono ?_; rintro e w' ⟨g, c, W, n, rfl, rfl, hb, hr⟩; have HR := Lib.hid hr; have HB := Lib.hid hb; clear hr hb; rw [H1.out])
    go_ret3
    exact ⟨W, _, by rw [CountRes, H1.out]; rfl, rfl, HB.out⟩
  · have H1 := Lib.hid h1
    clear h1
    go_enter Tryd.func5, Tryd.ntmps5
    go_wp2_with (go_at_call 7; refine (linesOf_any _ _ _ _ hs HZ.out).mono ?_; rintro e w' ⟨g, c, W, n, rfl, rfl, hb, hr⟩; have HR := Lib.hid hr; have HB := Lib.hid hb; clear hr hb; rw [H1.out])
    go_loopw [7, 8, 20] (fun b gd i wr => ∃ (k q : Nat), k ≤ (ahead s).length ∧ i = .int .i64 k ∧ b = .int .i64 (bad ((ahead s).take k)) ∧ gd = .int .i64 ((k : Int) - bad ((ahead s).take k)) ∧ wr = W.drewN q) (fun _ _ i _ => (ahead s).length - (intOf i).toNat)
    case atStart => exact ⟨0, _, Nat.zero_le _, rfl, rfl, rfl, rfl⟩
    case round =>
      obtain ⟨k, q, hk, rfl, rfl, rfl, rfl⟩ := hrel
      by_cases hlt : k < (ahead s).length
      · have hcell := HR.out _ _ (List.getElem?_eq_getElem hlt)
        have HX := Lib.hid (List.getElem?_eq_getElem hlt)
        have hbl := bad_le ((ahead s).take k)
        have hbt : ((ahead s).take k).length ≤ k := List.length_take_le _ _
        have hlt' : (k : Int) < ((ahead s).length : Int) := by omega
        generalize (ahead s)[k] = x at *
        rcases bad_cases x with ⟨e1, hb⟩ | ⟨e1, e2, e3, hb⟩ | ⟨e1, e2, e3, e4, hb⟩
        all_goals
          first | have HS := Lib.hid (bad_yes HX.out hb) | have HS := Lib.hid (bad_no HX.out hb)
          clear hb
          go_wp2_with (fail)
          go_roundw
          case rel => exact ⟨k + 1, _, by omega, by go_num, int_eq (by have := HS.out; omega), int_eq (by have := HS.out; omega), rfl⟩
          case measure => simp [intOf]; omega
      · obtain rfl : k = (ahead s).length := by omega
        go_wp2_with (fail)
        go_ret3
        exact ⟨W, _, by rw [CountRes, H1.out, List.take_length]; rfl, rfl, HB.out⟩

set_option maxHeartbeats 400000 in
theorem specCount_any (s : ByteArray) (w : World) (m : Nat) (hs : s.size ≤ 1048576) :
    Calls Tryd.prog 4 #[.string s] (w.drewN m) (CountEnd s w) := by
  have hl := pieces_length 10 s
  have hal := ahead_length s
  have hal2 : (ahead s).length ≤ 1048576 := by omega
  clear hl hal
  by_cases h0 : (s.size : Int) ≤ 16000
  · by_cases h1 : (lastP s).toList = []
    · have H1 : Hid (okLines s = true) := by show okLines s = true; unfold okLines; simp [h0, h1]
      have h2 : (lastP s).toList.isEmpty = true := by rw [h1]; rfl
      go_enter Tryd.func4, Tryd.ntmps4
      go_wp2_with (go_at_call 6; refine (l08Lines_any _ _ _ hs).mono ?_; rintro e w' ⟨g, c, W, n, rfl, rfl, hb, hr⟩; have HR := Lib.hid hr; have HB := Lib.hid hb; clear hr hb)
      go_loopw [7, 8] (fun b i wr => ∃ (k q : Nat), k ≤ (ahead s).length ∧ i = .int .i64 k ∧ b = .int .i64 (bad ((ahead s).take k)) ∧ wr = W.drewN q) (fun _ i _ => (ahead s).length - (intOf i).toNat)
      case atStart => exact ⟨0, _, Nat.zero_le _, rfl, rfl, rfl⟩
      case round =>
        obtain ⟨k, q, hk, rfl, rfl, rfl⟩ := hrel
        have hbl := bad_le ((ahead s).take k)
        have hbt : ((ahead s).take k).length ≤ k := List.length_take_le _ _
        by_cases hlt : k < (ahead s).length
        · have hcell := HR.out _ _ (List.getElem?_eq_getElem hlt)
          have HX := Lib.hid (List.getElem?_eq_getElem hlt)
          have hlt' : (k : Int) < ((ahead s).length : Int) := by omega
          generalize (ahead s)[k] = x at *
          rcases bad_cases x with ⟨e1, hb⟩ | ⟨e1, e2, e3, hb⟩ | ⟨e1, e2, e3, e4, hb⟩
          all_goals
            first | have HS := Lib.hid (bad_yes HX.out hb) | have HS := Lib.hid (bad_no HX.out hb)
            clear hb
            go_wp2_with (fail)
            go_roundw
            case rel => exact ⟨k + 1, _, by omega, by go_num, int_eq (by have := HS.out; omega), by first | rfl | exact World.drewN_drewN ..⟩
            case measure => simp [intOf]; omega
        · obtain rfl : k = (ahead s).length := by omega
          have hbad := bad_le (ahead s)
          go_wp2_with (fail)
          go_ret3
          exact ⟨W, _, by rw [CountRes, H1.out, List.take_length]; rfl, rfl, HB.out⟩
    · have H1 : Hid (okLines s = false) := by show okLines s = false; unfold okLines; simp [h1]
      have h2 : (lastP s).toList.isEmpty = false := by simpa using h1
      go_enter Tryd.func4, Tryd.ntmps4
      go_wp2_with (go_at_call 6; refine (l08Lines_any _ _ _ hs).mono ?_; rintro e w' ⟨g, c, W, n, rfl, rfl, hb, hr⟩; have HR := Lib.hid hr; have HB := Lib.hid hb; clear hr hb)
      go_ret3
      exact ⟨W, _, by rw [CountRes, H1.out]; rfl, rfl, HB.out⟩
  · have H1 : Hid (okLines s = false) := by show okLines s = false; unfold okLines; simp [h0]
    have h0' : (16000 : Int) < (s.size : Int) := by omega
    go_enter Tryd.func4, Tryd.ntmps4
    go_wp2_with (fail)
    go_ret3
    exact ⟨w, _, by rw [CountRes, H1.out]; rfl, rfl, Below.refl _ _⟩

theorem countRes_cases (s : ByteArray) : ∃ a b : Int, ∃ o : Bool, CountRes s = .tuple #[.int .i64 a, .int .i64 b, .bool o] := by
  unfold CountRes; split
  · exact ⟨_, _, _, rfl⟩
  · exact ⟨_, _, _, rfl⟩

def Holds (w : World) (e : Ending) (w' : World) : Prop := e = .returned (.bool true) ∧ Below w.heap.size w w'

theorem law_any (s : ByteArray) (w : World) (z : Int) (hz : w.cell? ⟨0, 0, none⟩ = some (.int .i64 z)) :
    Calls Tryd.prog 3 #[.string s] (w.drewN 0) (Holds w) := by
  by_cases hs : s.size ≤ 1048576
  · have hs' : (s.size : Int) ≤ 1048576 := by omega
    obtain ⟨a, b, o, hr⟩ := countRes_cases s
    have HR := Lib.hid hr
    have HZ := Lib.hid hz
    clear hz hr
    go_enter Tryd.func3, Tryd.ntmps3
    go_wp2_with (go_at_call 4; refine (specCount_any s _ _ hs).mono ?_; rintro e w' ⟨W, n, rfl, rfl, hb⟩; rw [HR.out]; have HB := Lib.hid hb; clear hb)
    have hz2 := Lib.hid ((HB.out.cell (p := ⟨0, 0, none⟩) (World.block_lt_of_cell? _ _ HZ.out)).trans HZ.out)
    go_wp2_with (go_at_call 5; refine (implCount_any s _ _ _ hs hz2.out).mono ?_; rintro e w' ⟨W2, n2, rfl, rfl, hb2⟩; rw [HR.out]; have HB2 := Lib.hid hb2; clear hb2)
    cases o
    all_goals
      go_wp2_with (fail)
      go_ret
      exact ⟨rfl, below_drawn (HB.out.trans (HB2.out.mono HB.out.size)) _⟩
  · have hs' : (1048576 : Int) < (s.size : Int) := by omega
    go_enter Tryd.func3, Tryd.ntmps3
    go_wp2_with (fail)
    go_ret
    exact ⟨rfl, below_drawn (Below.refl _ _) _⟩
end Go.Proofs.YtjnhhmhompepaaaDoor
