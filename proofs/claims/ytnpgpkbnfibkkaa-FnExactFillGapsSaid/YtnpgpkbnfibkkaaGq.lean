/- The walks: FillGaps, the reference. -/
import Derived.Test.YtnpgpkbnfibkkaaGo
import Derived.Test.YtnpgpkbnfibkkaaGm
import Derived.Test.YtnpgpkbnfibkkaaGp
import Derived.Test.YtnpgpkbnfibkkaaFl
namespace Go.Proofs.Ytnpgpkbnfibkkaa
open Go.RowKit Go.FV

theorem l02FiniteS_any (p : Option Addr) (c : Nat) (xs : List (FV .f32)) (w : World) (m : Nat) (hin : In32 w p xs) (hl : xs.length ≤ 1048576) :
    Calls Try.prog 81 #[.slice p xs.length c] (w.drewN m) (RetB (xs.all fun x => FV.isFin x) w) := by
  have HI := Lib.hid hin
  clear hin
  go_enter Try.func81, Try.ntmps81
  go_wp2_with (fail)
  go_loopw [3] (fun k wr => ∃ (n : Nat) (q : Nat), n ≤ xs.length ∧ k = .int .i64 n ∧ wr = w.drewN q ∧ Hid ((xs.take n).all (fun x => FV.isFin x) = true)) (fun k _ => xs.length - (intOf k).toNat)
  case atStart => exact ⟨0, _, Nat.zero_le _, rfl, rfl, rfl⟩
  case round =>
    obtain ⟨n, q, hn, rfl, rfl, hall⟩ := hrel
    by_cases hlt : n < xs.length
    · obtain ⟨b, off, rfl, hb, hrow⟩ := HI.out (by intro e; rw [e] at hlt; simp at hlt)
      obtain ⟨j, hcell⟩ := hrow n xs[n] (List.getElem?_eq_getElem hlt)
      clear hrow
      have hg := Lib.hid (List.getElem?_eq_getElem hlt)
      generalize xs[n] = x at *
      cases hf : FV.isFin x
      · go_wp2_with (go_at_call 54; refine (l01Finite_any _ _ _ _).mono ?_; rintro e w' ⟨q2, rfl, rfl⟩)
        go_ret
        exact ⟨_, by rw [not_all hg.out hf]; rfl, rfl⟩
      · go_wp2_with (go_at_call 54; refine (l01Finite_any _ _ _ _).mono ?_; rintro e w' ⟨q2, rfl, rfl⟩)
        go_roundw
        case rel => exact ⟨n + 1, _, by omega, by go_num, rfl, all_take_snoc hg.out hall.out hf⟩
        case measure => simp [intOf]; omega
    · obtain rfl : n = xs.length := by omega
      have ha : xs.all (fun x => FV.isFin x) = true := by have := hall.out; rwa [List.take_length] at this
      have HA := Lib.hid ha
      clear ha
      go_wp2_with (fail)
      go_ret
      exact ⟨_, by rw [HA.out]; rfl, rfl⟩

/-- A store into a row of the call's own. -/
theorem Own32.set {B g k j : Nat} {w : World} {O : List (FV .f32)} (h : Own32 B w g O) (hk : k < O.length) (y : FV .f32) : Own32 B (w.setCell ⟨g, k, none⟩ (.float .f32 (y.fl j))) g (O.set k y) := by
  refine ⟨h.new, ?_, fun i x hx => ?_, fun o => by rw [World.frozen?_setCell]; exact h.free o⟩
  · have := h.lt; simpa [World.setCell] using this
  · obtain ⟨j0, hj0⟩ := h.row k O[k] (List.getElem?_eq_getElem hk)
    rw [Nat.zero_add] at hj0
    rw [Nat.zero_add]
    rw [List.getElem?_set] at hx
    by_cases e : k = i
    · subst e
      rw [if_pos rfl, if_pos hk] at hx
      cases hx
      exact ⟨j, World.cell?_setCell_same (w := w) (a := ⟨g, k, none⟩) (h := hj0) ..⟩
    · rw [if_neg e] at hx
      obtain ⟨j1, hj1⟩ := h.row i x hx
      rw [Nat.zero_add] at hj1
      exact ⟨j1, (World.cell?_setCell_other (w := w) (a := ⟨g, k, none⟩) (b := ⟨g, i, none⟩) (h := fun h => e (congrArg Addr.off h)) ..).trans hj1⟩

theorem Own32.at {B g : Nat} {w : World} {O : List (FV .f32)} (h : Own32 B w g O) {k : Nat} (hk : k < O.length) : ∃ j, w.cell? ⟨g, k, none⟩ = some (.float .f32 (O[k].fl j)) := by
  obtain ⟨j, hj⟩ := h.row k O[k] (List.getElem?_eq_getElem hk)
  rw [Nat.zero_add] at hj
  exact ⟨j, hj⟩

/-- The words of a row. -/
theorem row_words {w : World} {b off : Nat} {xs : List (FV .f32)} (h : Row32 w b off xs) : ∃ vs, Is32 vs xs ∧ ∀ (j : Nat) u, vs[j]? = some u → w.cell? ((⟨b, off, none⟩ : Addr).add j) = some u := by
  have key : ∀ (n : Nat), n ≤ xs.length → ∃ vs : List Value, vs.length = n ∧ (∀ k x, k < n → xs[k]? = some x → ∃ j, vs[k]? = some (.float .f32 (x.fl j))) ∧ ∀ (j : Nat) u, vs[j]? = some u → w.cell? ⟨b, off + j, none⟩ = some u := by
    intro n
    induction n with
    | zero => intro _; exact ⟨[], rfl, fun k x hk => by omega, fun j u hu => by cases hu⟩
    | succ n ih =>
      intro hn
      obtain ⟨vs, h1, h2, h3⟩ := ih (by omega)
      obtain ⟨j0, hj0⟩ := h n xs[n] (List.getElem?_eq_getElem (by omega))
      refine ⟨vs ++ [.float .f32 (xs[n].fl j0)], by rw [List.length_append, h1]; rfl, fun k x hk hx => ?_, fun j u hu => ?_⟩
      · by_cases e : k < n
        · rw [List.getElem?_append_left (by omega)]; exact h2 k x e hx
        · obtain rfl : k = n := by omega
          rw [List.getElem?_append_right (by omega), h1, Nat.sub_self]
          rw [List.getElem?_eq_getElem (by omega)] at hx
          cases hx
          exact ⟨j0, rfl⟩
      · by_cases e : j < n
        · rw [List.getElem?_append_left (by omega)] at hu; exact h3 j u hu
        · rw [List.getElem?_append_right (by omega), h1] at hu
          cases hj : j - n with
          | zero => rw [hj] at hu; cases hu; obtain rfl : j = n := by omega
                    exact hj0
          | succ m => rw [hj] at hu; cases hu
  obtain ⟨vs, h1, h2, h3⟩ := key xs.length (Nat.le_refl _)
  refine ⟨vs, ⟨h1, fun k x hx => h2 k x (List.getElem?_eq_some_iff.1 hx).1 hx⟩, fun j u hu => by rw [Addr.add_lit]; exact h3 j u hu⟩

/-- What FillGaps returns. -/
def RetFill (ok : Bool) (vals : List (FV .f32)) (w : World) (e : Ending) (w' : World) : Prop :=
  ∃ p c w1 n, e = .returned (.tuple #[.slice p (if ok = true then vals.length else 0) c, .bool ok]) ∧ w' = w1.drewN n ∧ Below w.heap.size w w1 ∧ (ok = true → ∃ g, p = some ⟨g, 0, none⟩ ∧ Own32 w.heap.size w1 g vals)

theorem kn_get {ks : List Bool} {k : Nat} {b : Bool} (h : ks[k]? = some b) : kn ks k = b := by unfold kn; rw [List.getD_eq_getElem?_getD, h]; rfl

theorem OwnsLogs.own32 {w W : World} {fs : List (FV .f32)} {v : Value} (h : OwnsLogs w W fs v) (hne : 0 < fs.length) : ∃ g c, v = .slice (some ⟨g, 0, none⟩) fs.length c ∧ Own32 w.heap.size W g fs := by
  obtain ⟨hb, vs, hi, ho⟩ := h
  rcases ho.2 with ⟨rfl, hn⟩ | ⟨g, cap, cur, rfl, hbg, hg, hnc, hcm, hcs, htake⟩
  · omega
  · refine ⟨g, cap, rfl, hbg, (Array.getElem?_eq_some_iff.1 hg).1, fun k x hx => ?_, fun o => ho.frozenAt o⟩
    obtain ⟨j, hj⟩ := hi.2 k x hx
    have := ho.cells rfl k _ hj
    rw [Addr.add_lit] at this
    exact ⟨j, this⟩

theorem wpl_append1 {ops : Array Oper} {rest : List Oper} {dst : Option Tmp} {s x ty : Nat} {pos : String} {after : Array Edge} {a : Act} {w W W1 : World} {q : Nat} {Q : Exit → Act → World → Prop} {fs : List (FV .f32)} {y : FV .f32} {i : Nat} {v : Value}
    (hl : fs.length ≤ 1048576) (ho : OwnsLogs w W fs v) (hW1 : W1 = W.alloc (.cells #[.float .f32 (y.fl i)] 22)) (hs : a.tmps.getD s undef = v) (hx : a.tmps.getD x undef = .slice (some ⟨W.heap.size, 0, none⟩) 1 1)
    (h : ∀ v' W2, OwnsLogs w W2 (fs ++ [y]) v' → wpList Try.prog ops Q rest (a.put dst v') W2) :
    wpList Try.prog ops Q (⟨dst, .call { callee := .builtin .append, args := #[.tmp s, .tmp x], argTypes := #[33, 33] }, ty, pos, after, none⟩ :: rest) a (W1.drewN q) :=
  wpList_plain rfl fun _ hK => op_append1 hl ho hW1 hs hx fun v' W2 h2 => hK _ _ (h v' W2 h2)

theorem wpl_appendAll {ops : Array Oper} {rest : List Oper} {dst : Option Tmp} {s x ty : Nat} {pos : String} {after : Array Edge} {a : Act} {w W : World} {q : Nat} {Q : Exit → Act → World → Prop} {xs : List (FV .f32)} {b off c : Nat} {v : Value}
    (hl : xs.length ≤ 1048576) (ho : OwnsLogs w W [] v) (hr : Row32 W b off xs) (hs : a.tmps.getD s undef = v) (hx : a.tmps.getD x undef = .slice (some ⟨b, off, none⟩) xs.length c)
    (h : ∀ v' W2, OwnsLogs w W2 xs v' → wpList Try.prog ops Q rest (a.put dst v') W2) :
    wpList Try.prog ops Q (⟨dst, .call { callee := .builtin .append, args := #[.tmp s, .tmp x], argTypes := #[33, 33] }, ty, pos, after, none⟩ :: rest) a (W.drewN q) := by
  obtain ⟨ti, hi, hz, hsz, hby⟩ := info_parts info22
  obtain ⟨vs, hi32, hown⟩ := ho.2
  obtain ⟨ns, hn1, hn2⟩ := row_words hr
  have hvs : vs = [] := List.length_eq_zero_iff.1 hi32.1
  subst hvs
  have hb : Below w.heap.size W (W.drewN q) := below_drawn (Below.refl _ _) q
  have hc1 : ∀ u ∈ ns, u.oneCell' = true := by
    intro u hu
    obtain ⟨k, hk, rfl⟩ := List.mem_iff_getElem.1 hu
    have hk' : k < xs.length := by rw [← hn1.1]; exact hk
    obtain ⟨j, hj⟩ := hn1.2 k (xs[k]'hk') (List.getElem?_eq_getElem hk')
    rw [List.getElem?_eq_getElem hk] at hj
    rw [Option.some.inj hj]; rfl
  have hb1 : 0 + xs.length ≤ maxLen := by rw [Nat.zero_add]; unfold maxLen; omega
  have hb2 : (0 + xs.length) * 4 ≤ 140737488355328 := by rw [Nat.zero_add]; omega
  have hlen : ns.length = xs.length * 1 := by rw [hn1.1, Nat.mul_one]
  refine wpList_append_own (W.drewN q) rfl (.tmp s) (.tmp x) 33 rfl w.heap.size 22 ti (.float .f32 0) 1 4 Try.underlying33 hi hz hsz hby rfl (by decide) v 0 [] hs hown ⟨b, off, none⟩ xs.length c ns hx hlen hn2 hc1 hb1 hb2 (Nat.le_trans ho.1.size hb.size) ?_
  · intro v' w' h2 h3 _
    refine h v' w' ⟨(ho.1.trans hb).grown h3 (Nat.le_trans ho.1.size hb.size) fun k hk => (hown.lt k hk).1, ns, hn1, ?_⟩
    simpa using h2

end Go.Proofs.Ytnpgpkbnfibkkaa
