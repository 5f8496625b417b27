/- The walks: the reference's cutting of a text. -/
import Derived.Test.YtjnhhmhompepaaaDoorProg
import Derived.Test.YtjnhhmhompepaaaDoorCa
import Derived.WalkKit
import Derived.OwnWalk
import Derived.Below
import Derived.Lib.Hide
import Derived.Deep.QuietTactic
import Derived.BigQuiet
namespace Go.Proofs.YtjnhhmhompepaaaDoor
open Go.RowKit Go.Cutting

theorem below_drawn {B : Nat} {w w1 : World} (h : Below B w w1) (n : Nat) : Below B w (w1.drewN n) := h.trans ⟨rfl, rfl, rfl, Nat.le_refl _, fun _ _ => rfl⟩
theorem info9 : (Tryd.prog.info? 9).map (fun i => (i.zero, i.size, i.bytes)) = some (some (.string ByteArray.empty), 1, 16) := by kernel_rfl
theorem cell_new1 (w : World) (v : Value) (t : TypeId) : (w.alloc (.cells #[v] t)).cell? ⟨w.heap.size, 0, none⟩ = some v := by
  rw [World.cell?_alloc_new]; rfl

/-- A row of texts of the call's own, while it grows. -/
def Grows (w W : World) (xs : List ByteArray) (v : Value) : Prop := Below w.heap.size w W ∧ W.ownsRow w.heap.size 9 1 v xs.length (xs.map Value.string)

theorem Grows.nil (w : World) : Grows w (w.alloc (.cells #[] 9)) [] (.slice (some ⟨w.heap.size, 0, none⟩) 0 0) :=
  ⟨(Below.refl _ _).alloc (Nat.le_refl _) _, World.ownsRow_lit w #[] 0 (Nat.le_refl _) (Nat.zero_le _) rfl⟩

/-- The row can be read. -/
def Reads (W : World) (g : Nat) (xs : List ByteArray) : Prop := ∀ (k : Nat) x, xs[k]? = some x → W.cell? ⟨g, k, none⟩ = some (.string x)

theorem Grows.reads {w W : World} {xs : List ByteArray} {v : Value} (h : Grows w W xs v) (hne : xs ≠ []) : ∃ g c, v = .slice (some ⟨g, 0, none⟩) xs.length c ∧ xs.length ≤ c ∧ c ≤ maxLen ∧ Reads W g xs := by
  obtain ⟨hb, ho⟩ := h
  rcases ho.2 with ⟨rfl, hn⟩ | ⟨g, cap, cur, rfl, hbg, hg, hnc, hcm, hcs, htake⟩
  · exact absurd (List.length_eq_zero_iff.1 hn) hne
  · refine ⟨g, cap, rfl, hnc, hcm, fun k x hx => ?_⟩
    have := ho.cells rfl k (.string x) (by rw [List.getElem?_map, hx]; rfl)
    rw [Addr.add_lit, Nat.zero_add] at this
    exact this

section
attribute [local irreducible] Oper.wp

theorem op_append1 {dst : Option Tmp} {s x ty : Nat} {pos : String} {after : Array Edge} {g : Option (Nat × Bool)} {a : Act} {w W W1 : World} {q : Nat} {K : Act → World → Prop} {Q : Exit → Act → World → Prop} {xs : List ByteArray} {y : ByteArray} {v : Value}
    (hl : xs.length ≤ 1048577) (ho : Grows w W xs v) (hW1 : W1 = W.alloc (.cells #[.string y] 9)) (hs : a.tmps.getD s undef = v) (hx : a.tmps.getD x undef = .slice (some ⟨W.heap.size, 0, none⟩) 1 1)
    (h : ∀ v' W2, Grows w W2 (xs ++ [y]) v' → K (a.put dst v') W2) :
    Oper.wp Tryd.prog ⟨dst, .call { callee := .builtin .append, args := #[.tmp s, .tmp x], argTypes := #[25, 25] }, ty, pos, after, g⟩ a (W1.drewN q) K Q := by
  obtain ⟨ti, hi, hz, hsz, hby⟩ := info_parts info9
  have hown := ho.2
  subst hW1
  have hb : Below w.heap.size W ((W.alloc (.cells #[.string y] 9)).drewN q) := below_drawn ((Below.refl _ _).alloc ho.1.size _) q
  refine wp_append_own _ (.tmp s) (.tmp x) 25 rfl w.heap.size 9 ti (.string ByteArray.empty) 1 16 Tryd.underlying25 hi hz hsz hby rfl (by decide) v xs.length (xs.map Value.string) hs ?_ ⟨W.heap.size, 0, none⟩ 1 1 [.string y] hx rfl ?_ ?_ ?_ ?_ ?_ ?_
  · exact (hown.alloc _)
  · intro j u hu
    match j, hu with
    | 0, hu => cases hu; exact cell_new1 W _ 9
  · intro u hu; rw [List.mem_singleton.1 hu]; rfl
  · unfold maxLen; omega
  · omega
  · exact Nat.le_trans ho.1.size hb.size
  · intro v' w' h2 h3 _
    refine h v' w' ⟨(ho.1.trans hb).grown h3 (Nat.le_trans ho.1.size hb.size) fun k hk => (hown.lt k hk).1, ?_⟩
    rw [List.length_append, List.map_append]
    exact h2
end

theorem wpl_append1 {ops : Array Oper} {rest : List Oper} {dst : Option Tmp} {s x ty : Nat} {pos : String} {after : Array Edge} {a : Act} {w W W1 : World} {q : Nat} {Q : Exit → Act → World → Prop} {xs : List ByteArray} {y : ByteArray} {v : Value}
    (hl : xs.length ≤ 1048577) (ho : Grows w W xs v) (hW1 : W1 = W.alloc (.cells #[.string y] 9)) (hs : a.tmps.getD s undef = v) (hx : a.tmps.getD x undef = .slice (some ⟨W.heap.size, 0, none⟩) 1 1)
    (h : ∀ v' W2, Grows w W2 (xs ++ [y]) v' → wpList Tryd.prog ops Q rest (a.put dst v') W2) :
    wpList Tryd.prog ops Q (⟨dst, .call { callee := .builtin .append, args := #[.tmp s, .tmp x], argTypes := #[25, 25] }, ty, pos, after, none⟩ :: rest) a (W1.drewN q) :=
  wpList_plain rfl fun _ hK => op_append1 hl ho hW1 hs hx fun v' W2 h2 => hK _ _ (h v' W2 h2)

def cutRow (s : ByteArray) (c : UInt8) (f i : Nat) (done : List ByteArray) : Prop :=
  (i ≤ s.size ∧ done ++ (midL c s.data.toList f i).map strB = pieces c s) ∨ (i = s.size + 1 ∧ done = pieces c s)

theorem cutRow_start (s : ByteArray) (c : UInt8) : cutRow s c 0 0 [] := .inl ⟨Nat.zero_le _, by rw [mid_start]; rfl⟩
theorem cutRow_hit {s : ByteArray} {c : UInt8} {f i : Nat} {done : List ByteArray} (h : cutRow s c f i done) (hi : i < s.size) (hx : s[i] = c) : cutRow s c (i + 1) (i + 1) (done ++ [s.extract f i]) := by
  rcases h with ⟨h1, h2⟩ | ⟨h1, h2⟩
  · refine .inl ⟨by omega, ?_⟩
    rw [mid_hit (by rw [List.getElem?_eq_getElem (by rw [← Lib.size_eq]; exact hi)]; exact congrArg some hx)] at h2
    rw [← h2, List.map_cons, extract_strB, List.append_assoc]; rfl
  · omega
theorem cutRow_miss {s : ByteArray} {c : UInt8} {f i : Nat} {done : List ByteArray} (h : cutRow s c f i done) (hf : f ≤ i) (hi : i < s.size) (hx : s[i] ≠ c) : cutRow s c f (i + 1) done := by
  rcases h with ⟨h1, h2⟩ | ⟨h1, h2⟩
  · refine .inl ⟨by omega, ?_⟩
    rw [mid_miss (x := s[i]) hf (by rw [List.getElem?_eq_getElem (by rw [← Lib.size_eq]; exact hi)]; rfl) hx] at h2
    exact h2
  · omega
theorem cutRow_end {s : ByteArray} {c : UInt8} {f : Nat} {done : List ByteArray} (h : cutRow s c f s.size done) : cutRow s c (s.size + 1) (s.size + 1) (done ++ [s.extract f s.size]) := by
  rcases h with ⟨h1, h2⟩ | ⟨h1, h2⟩
  · refine .inr ⟨rfl, ?_⟩
    have e := mid_end (c := c) (l := s.data.toList) (f := f)
    rw [← Lib.size_eq] at e
    rw [e] at h2
    rw [← h2, extract_strB]; rfl
  · omega
theorem cutRow_done {s : ByteArray} {c : UInt8} {f : Nat} {done : List ByteArray} (h : cutRow s c f (s.size + 1) done) : done = pieces c s := by
  rcases h with ⟨h1, h2⟩ | ⟨h1, h2⟩
  · omega
  · exact h2

def NewTexts (xs : List ByteArray) (w : World) (e : Ending) (w' : World) : Prop :=
  ∃ v W n, e = .returned v ∧ w' = W.drewN n ∧ Grows w W xs v

theorem byte_eq {s : ByteArray} {n : Nat} (h : n < s.size) (c : UInt8) (hx : s[n] = c) : ((s[n].toNat : Int) == (c.toNat : Int)) = true := by rw [hx]; simp
theorem byte_ne {s : ByteArray} {n : Nat} (h : n < s.size) (c : UInt8) (hx : s[n] ≠ c) : ((s[n].toNat : Int) == (c.toNat : Int)) = false := by
  rw [beq_eq_false_iff_ne]; intro e; exact hx (UInt8.toNat_inj.1 (by omega))

set_option maxHeartbeats 400000 in
theorem l01Cut_any (s : ByteArray) (w : World) (m : Nat) (hs : s.size ≤ 1048576) :
    Calls Tryd.prog 8 #[.string s, .int .u8 10] (w.drewN m) (NewTexts (pieces 10 s) w) := by
  go_enter Tryd.func8, Tryd.ntmps8
  go_wp2_with (fail)
  go_loopw [5, 6, 7] (fun v f i wr => ∃ (fn n q : Nat) (W : World) (done : List ByteArray), i = .int .i64 n ∧ f = .int .i64 fn ∧ n ≤ s.size + 1 ∧ fn ≤ n ∧ done.length ≤ n ∧ wr = W.drewN q ∧ Hid (cutRow s 10 fn n done) ∧ Hid (Grows w W done v)) (fun _ _ i _ => s.size + 1 - (intOf i).toNat)
  case atStart => exact ⟨0, 0, _, _, [], rfl, rfl, by omega, Nat.le_refl _, Nat.le_refl _, rfl, cutRow_start _ _, Grows.nil _⟩
  case round =>
    obtain ⟨fn, n, q, W, done, rfl, rfl, hn, hfn, hd, rfl, HC, HG⟩ := hrel
    by_cases hlt : n < s.size + 1
    · by_cases he : n = s.size
      · obtain rfl := he
        go_wp2_with (at_builtin; refine wpl_append1 (by omega) HG.out rfl rfl rfl ?_; intro v' W2 HG2)
        go_roundw
        case rel => exact ⟨_, s.size + 1, 0, _, _, by go_num, by go_num, by omega, Nat.le_refl _, by rw [List.length_append]; simp; omega, rfl, cutRow_end HC.out, HG2⟩
        case measure => simp [intOf]
      · have hlt2 : n < s.size := by omega
        have he2 : ((n : Int) == (s.size : Int)) = false := by rw [beq_eq_false_iff_ne]; omega
        by_cases hx : s[n] = 10
        · have hb : ((s[n].toNat : Int) == 10) = true := byte_eq hlt2 10 hx
          have HX := Lib.hid hx
          clear hx
          go_wp2_with (at_builtin; refine wpl_append1 (by omega) HG.out rfl rfl rfl ?_; intro v' W2 HG2)
          go_roundw
          case rel => exact ⟨n + 1, n + 1, 0, _, _, by go_num, by go_num, by omega, Nat.le_refl _, by rw [List.length_append]; simp; omega, rfl, cutRow_hit HC.out hlt2 HX.out, HG2⟩
          case measure => simp [intOf]; omega
        · have hb : ((s[n].toNat : Int) == 10) = false := byte_ne hlt2 10 hx
          have HX := Lib.hid hx
          clear hx
          go_wp2_with (fail)
          go_roundw
          case rel => exact ⟨fn, n + 1, q, _, _, by go_num, rfl, by omega, by omega, by omega, rfl, cutRow_miss HC.out hfn hlt2 HX.out, HG⟩
          case measure => simp [intOf]; omega
    · obtain rfl : n = s.size + 1 := by omega
      go_wp2_with (fail)
      go_ret
      exact ⟨_, _, _, rfl, rfl, by have := cutRow_done HC.out; subst this; exact HG.out⟩
end Go.Proofs.YtjnhhmhompepaaaDoor
