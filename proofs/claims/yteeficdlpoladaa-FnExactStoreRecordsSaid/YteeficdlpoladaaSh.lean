/- The walks: a record's bytes, by the program. -/
import Derived.Test.YteeficdlpoladaaSg
namespace Go.Proofs.Yteeficdlpoladaa
open Go.RowKit Go.FV

def SB (l : List UInt8) (v : Value) (w : World) : Prop := ∃ p c, v = .slice p l.length c ∧ ReadB w p l
def riv : List UInt8 := [82, 73, 86, 49]
def piecesB (r : Rec) : List (List UInt8) := [riv, [byteOf (r.name.size : Int)], r.name.data.toList, leB 4 r.start, leB 2 r.step, leB 2 ((packL r.vals).length : Int), packL r.vals]
theorem pieces_flat (r : Rec) : (piecesB r).flatten = headB r := by
  unfold piecesB headB riv
  simp

/-- What each operation of the region leaves. -/
def StS (r : Rec) (B bx : Nat) (W : World) (v3 : Value) (i : Nat) (v : Value) (w' : World) : Prop :=
  match i with
  | 0 => ∃ g, v = .slice (some ⟨g, 0, none⟩) 4 4 ∧ B ≤ g ∧ ReadB w' (some ⟨g, 0, none⟩) riv
  | 1 => SB riv v w'
  | 2 => v = .pointer (some ⟨bx, 0, none⟩)
  | 3 => v = .string r.name
  | 4 => v = .int .i64 r.name.size
  | 5 => v = .int .u8 r.name.size
  | 6 => SB [byteOf (r.name.size : Int)] v w'
  | 7 => v = .pointer (some ⟨bx, 0, none⟩)
  | 8 => v = .string r.name
  | 9 => SB r.name.data.toList v w'
  | 10 => v = .pointer (some ⟨bx, 1, none⟩)
  | 11 => v = .int .i64 r.start
  | 12 => SB (leB 4 r.start) v w'
  | 13 => v = .pointer (some ⟨bx, 2, none⟩)
  | 14 => v = .int .i64 r.step
  | 15 => SB (leB 2 r.step) v w'
  | 16 => v = v3
  | 17 => v = .int .i64 (packL r.vals).length
  | 18 => SB (leB 2 ((packL r.vals).length : Int)) v w'
  | 19 => v = v3
  | 20 => ∃ g, v = .slice (some ⟨g, 0, none⟩) 7 7 ∧ InSS w' g (piecesB r)
  | 21 => GrowB B W w' (headB r) v
  | _ => GrowB B W w' (headB r) v

theorem SB.mono {l : List UInt8} {v : Value} {w1 w' : World} (h : SB l v w1) (hb : Below w1.heap.size w1 w') : SB l v w' := by
  obtain ⟨p, c, h1, h2⟩ := h
  exact ⟨p, c, h1, h2.below hb⟩
theorem GrowB.mono {B : Nat} {w w1 w' : World} {xs : List UInt8} {v : Value} (h : GrowB B w w1 xs v) (hb : Below w1.heap.size w1 w') : GrowB B w w' xs v :=
  ⟨h.below.trans (hb.mono h.base), Nat.le_trans h.base hb.size, h.row.kept (row := none) ⟨hb.os, hb.tape, hb.output, hb.size, fun k hk _ => hb.block k hk⟩ (by
    rcases h.row.2 with ⟨rfl, -⟩ | ⟨g, cap, cur, rfl, -⟩
    · exact .inl rfl
    · exact .inr (by simp [Value.ownBlock]))⟩
theorem StS.mono {r : Rec} {B bx : Nat} {W : World} {v3 : Value} {i : Nat} {v : Value} {w1 w' : World} (h : StS r B bx W v3 i v w1) (hb : Below w1.heap.size w1 w') : StS r B bx W v3 i v w' := by
  unfold StS at h ⊢
  split at h <;> first | exact h | exact h.mono hb | (obtain ⟨g, h1, h2, h3⟩ := h; exact ⟨g, h1, h2, h3.below hb⟩) | (obtain ⟨g, h1, h2⟩ := h; exact ⟨g, h1, h2.below hb⟩)
/-- What can be read alike stays. -/
theorem SB.alike {l : List UInt8} {v : Value} {w1 w' : World} (h : SB l v w1) (hs : w'.heap.size = w1.heap.size) (hc : ∀ p, w'.cell? p = w1.cell? p) : SB l v w' := by
  obtain ⟨p, c, h1, h2⟩ := h
  refine ⟨p, c, h1, fun hne => ?_⟩
  obtain ⟨g, o, h3, h4, h5⟩ := h2 hne
  exact ⟨g, o, h3, by rw [hs]; exact h4, fun k x hk => by rw [hc]; exact h5 k x hk⟩
theorem StS.alike {r : Rec} {B bx : Nat} {W : World} {v3 : Value} {i : Nat} {v : Value} {w1 w' : World} (hi : i < 20) (h : StS r B bx W v3 i v w1) (hs : w'.heap.size = w1.heap.size) (hc : ∀ p, w'.cell? p = w1.cell? p) : StS r B bx W v3 i v w' := by
  have hr : ∀ {a : Option Addr} {l : List UInt8}, ReadB w1 a l → ReadB w' a l := fun {a l} h2 hne => by
    obtain ⟨g, o, h3, h4, h5⟩ := h2 hne
    exact ⟨g, o, h3, by rw [hs]; exact h4, fun k x hk => by rw [hc]; exact h5 k x hk⟩
  unfold StS at h ⊢
  split at h <;> first | exact h | exact h.alike hs hc | (obtain ⟨g, h1, h2, h3⟩ := h; exact ⟨g, h1, h2, hr h3⟩) | omega | (exfalso; clear h hr hc hs; simp_all only [imp_false]; omega)

theorem new_read (W : World) (l : List UInt8) (cs : Array Value) (h : cs = (l.map bv).toArray) : ReadB (W.alloc (.cells cs 5)) (some ⟨W.heap.size, 0, none⟩) l := fun _ =>
  ⟨W.heap.size, 0, rfl, by simp, fun k x hk => by rw [Nat.zero_add, World.cell?_alloc_new, h, List.getElem?_toArray, List.getElem?_map, hk]; rfl⟩

theorem GrowB.sb {B : Nat} {w W : World} {xs : List UInt8} {v : Value} (h : GrowB B w W xs v) : SB xs v W := by
  obtain ⟨a, c, h1, h2, -⟩ := h.read
  exact ⟨a, c, h1, h2⟩

theorem piecesB_ne {r : Rec} (h : validR r = true) : ∀ l ∈ piecesB r, l ≠ [] := by
  have hv := valid_parts h
  have hn : 1 ≤ r.name.size := by
    unfold validR nameOk at h
    simp only [Bool.and_eq_true, decide_eq_true_eq] at h
    omega
  have hp : packL r.vals ≠ [] := by
    cases hx : r.vals with
    | nil => rw [hx] at hv; simp at hv
    | cons x xs =>
      intro e
      have h1 : ∀ (ys : List (FV .f32)) (s : List UInt8 × Int), s.1.length ≤ (ys.foldl packStep s).1.length := by
        intro ys
        induction ys with
        | nil => intro s; exact Nat.le_refl _
        | cons y ys ih => intro s; rw [List.foldl_cons]; exact Nat.le_trans (by unfold packStep; simp) (ih _)
      have h2 := h1 xs (packStep ([], 0) x)
      have h3 : 1 ≤ (packStep ([], 0) x).1.length := by
        unfold packStep
        simp only [List.nil_append]
        unfold varint
        split <;> simp
      have h4 : (packL (x :: xs)).length = 0 := by rw [e]; rfl
      unfold packL packS at h4
      rw [List.foldl_cons] at h4
      omega
  intro l hl
  unfold piecesB riv at hl
  simp only [List.mem_cons, List.mem_nil_iff, or_false] at hl
  rcases hl with rfl | rfl | rfl | rfl | rfl | rfl | rfl
  · simp
  · simp
  · intro e
    have : r.name.data.toList.length = r.name.size := by simp
    rw [e] at this
    simp at this; omega
  · intro e; have := leB_length 4 r.start; rw [e] at this; simp at this
  · intro e; have := leB_length 2 r.step; rw [e] at this; simp at this
  · intro e; have := leB_length 2 ((packL r.vals).length : Int); rw [e] at this; simp at this
  · exact hp

section
variable {r : Rec} {B bx : Nat} {W : World} {v3 : Value} {i : Nat} {listed : Array Bool} {o : Oper} {a : Act} {w1 : World} {Q : Exit → Act → World → Prop}
/-- What an operation of the region owes. -/
def Owes (r : Rec) (B bx : Nat) (W : World) (v3 : Value) (i : Nat) (listed : Array Bool) (o : Oper) (a : Act) (w1 : World) (a' : Act) (w' : World) : Prop :=
  ∃ v, a' = a.put o.dst v ∧ Below B w1 w' ∧ StS r B bx W v3 i v w' ∧ ∀ j u, listed.getD j false = true → StS r B bx W v3 j u w1 → StS r B bx W v3 j u w'
theorem op_pure {v : Value} (hr : (execOp a.eval o).run Try.prog w1 = .ok (.value v) w1) (hs : StS r B bx W v3 i v w1) : o.wp Try.prog a w1 (Owes r B bx W v3 i listed o a w1) Q :=
  op_value hr ⟨v, rfl, Below.refl _ _, hs, fun _ _ _ h => h⟩
theorem op_new {v : Value} {w' : World} (hr : (execOp a.eval o).run Try.prog w1 = .ok (.value v) w') (hB : B ≤ w1.heap.size) (hb : Below w1.heap.size w1 w') (hs : StS r B bx W v3 i v w') : o.wp Try.prog a w1 (Owes r B bx W v3 i listed o a w1) Q :=
  op_value hr ⟨v, rfl, hb.mono hB, hs, fun _ _ _ h => h.mono hb⟩
theorem op_callN {f : FuncId} {args : Array Value} {l : List UInt8} (hr : (execOp a.eval o).run Try.prog w1 = .ok (.enter f args) w1) (hB : B ≤ w1.heap.size) (hc : Calls Try.prog f args (w1.drewN 0) (NewBytes l w1))
    (hs : ∀ v w', GrowB w1.heap.size w1 w' l v → StS r B bx W v3 i v w') : o.wp Try.prog a w1 (Owes r B bx W v3 i listed o a w1) Q :=
  op_call' hr (hc.mono fun e w' ⟨v, W', q, he, hw, hg⟩ => by
    subst hw
    have hb : Below w1.heap.size w1 (W'.drewN q) := below_drawn hg.below q
    have hg2 : GrowB w1.heap.size w1 (W'.drewN q) l v := ⟨hb, hg.base, hg.row⟩
    exact ⟨v, he, v, rfl, hb.mono hB, hs v _ hg2, fun _ _ _ h => h.mono hb⟩)
end

theorem lower {w : World} {B b size n : Nat} {e : TypeId} {v : Value} {xs : List Value} (h : w.ownsRow b e size v n xs) (hb : B ≤ b) : w.ownsRow B e size v n xs := by
  refine ⟨h.1, ?_⟩
  rcases h.2 with h2 | ⟨g, cap, cur, h3, h4, h5⟩
  · exact .inl h2
  · exact .inr ⟨g, cap, cur, h3, Nat.le_trans hb h4, h5⟩

set_option maxHeartbeats 1600000 in
set_option maxRecDepth 20000 in
theorem storeRecord_any (r : Rec) (p : Option Addr) (c : Nat) (w : World) (m : Nat) (hin : In32 w p r.vals) (hv : validR r = true) :
    Calls Try.prog 24 #[recVal r p c] (w.drewN m) (NewStr (storeB r) w) := by
  obtain ⟨v1, v2, v3, v4, v5, v6, v7⟩ := valid_parts hv
  have HI := Lib.hid hin
  have HV := Lib.hid hv
  have hpl := packL_len r.vals
  clear hin hv
  have HB0 : Hid (Below w.heap.size w (w.alloc (.cells #[.string r.name, .int .i64 r.start, .int .i64 r.step, .slice p r.vals.length c] 35))) := (Below.refl _ _).alloc (Nat.le_refl _) _
  unfold recVal
  go_enter Try.func24, Try.ntmps24
  go_wp2_with (go_at_call 40; refine (pack_any p c r.vals _ _ (HI.out.below HB0.out) v7).mono ?_; rintro e w' ⟨pv, W, q, rfl, rfl, hg⟩; have HG := Lib.hid hg; clear hg)
  obtain ⟨a3, c3, rfl, hr3, -⟩ := HG.out.read
  have HR3 := Lib.hid hr3
  have hbx : w.heap.size < W.heap.size := by have := HG.out.below.size; simp at this; omega
  have hcell : ∀ k : Nat, W.cell? ⟨w.heap.size, k, none⟩ = (#[Value.string r.name, .int .i64 r.start, .int .i64 r.step, .slice p r.vals.length c] : Array Value)[k]? := fun k => by
    rw [HG.out.below.cell (p := ⟨w.heap.size, k, none⟩) (by simp), World.cell?_alloc_new]
  have HC := Lib.hid hcell
  clear hcell hr3
  refine wp_region_grow (w0 := W) W.heap.size (StS r W.heap.size w.heap.size W (.slice a3 (packL r.vals).length c3)) (by kernel_rfl) (by kernel_rfl) (below_drawn (Below.refl _ _) (q + 1)) ?_ ?_
  · intro i o a w1 listed ho hlsz hB hnot hsize hoff hclos hdep
    show o.wp Try.prog a w1 (Owes r W.heap.size w.heap.size W (.slice a3 (packL r.vals).length c3) i listed o a w1) _
    have hcell1 : ∀ k : Nat, w1.cell? ⟨w.heap.size, k, none⟩ = (#[Value.string r.name, .int .i64 r.start, .int .i64 r.step, .slice p r.vals.length c] : Array Value)[k]? := fun k => by
      rw [hB.cell (p := ⟨w.heap.size, k, none⟩) hbx, HC.out]
    have t1 : a.tmps.getD 1 undef = .pointer (some ⟨w.heap.size, 0, none⟩) := hoff 1 (by decide)
    have t3 : a.tmps.getD 3 undef = .slice a3 (packL r.vals).length c3 := hoff 3 (by decide)
    match i, ho, hdep, hnot with
    | 0, ho, hdep, _ => cases ho; exact op_new exec_lit4 hB.size ((Below.refl _ _).alloc (Nat.le_refl _) _) ⟨_, rfl, hB.size, new_read _ riv _ rfl⟩
    | 1, ho, hdep, hnot =>
      cases ho
      obtain ⟨g, d0, hgB, hgr⟩ : ∃ g, a.tmps.getD 8 undef = .slice (some ⟨g, 0, none⟩) 4 4 ∧ W.heap.size ≤ g ∧ ReadB w1 (some ⟨g, 0, none⟩) riv := hdep ⟨0, .data⟩ (by simp) rfl
      obtain ⟨w', hr, hb, hs1, hs2⟩ := exec_mark (w := w1) hgB d0
      refine op_value hr ⟨_, rfl, hb, SB.alike ⟨_, _, rfl, hgr⟩ hs1 hs2, fun j u hj h => h.alike ?_ hs1 hs2⟩
      apply Classical.byContradiction
      intro hn
      have h20 : listed.getD 20 false = true := by
        by_cases h : j = 20
        · rw [← h]; exact hj
        · by_cases h' : j = 21
          · exact hclos 21 _ rfl (by rw [← h']; exact hj) ⟨20, .data⟩ (by simp) rfl
          · by_cases h'' : j = 22
            · exact hclos 21 _ rfl (hclos 22 _ rfl (by rw [← h'']; exact hj) ⟨21, .data⟩ (by simp) rfl) ⟨20, .data⟩ (by simp) rfl
            · exfalso
              have hj23 : 23 ≤ j := by omega
              have : ¬ j < listed.size := by rw [hlsz]; simp; omega
              simp [Array.getD, this] at hj
      have h1 := hclos 20 _ rfl h20 ⟨1, .data⟩ (by simp) rfl
      rw [hnot] at h1; cases h1
    | 2, ho, hdep, _ => cases ho; exact op_pure (exec_field35 (by decide) t1) rfl
    | 3, ho, hdep, _ =>
      cases ho
      have d0 : a.tmps.getD 10 undef = .pointer (some ⟨w.heap.size, 0, none⟩) := hdep ⟨2, .data⟩ (by simp) rfl
      exact op_pure (exec_load9 d0 (hcell1 0)) rfl
    | 4, ho, hdep, _ =>
      cases ho
      have d0 : a.tmps.getD 11 undef = .string r.name := hdep ⟨3, .data⟩ (by simp) rfl
      exact op_pure (exec_lenS d0) rfl
    | 5, ho, hdep, _ =>
      cases ho
      have d0 : a.tmps.getD 12 undef = .int .i64 r.name.size := hdep ⟨4, .data⟩ (by simp) rfl
      exact op_pure (exec_toByte (by omega) (by omega) d0) rfl
    | 6, ho, hdep, _ =>
      cases ho
      have d0 : a.tmps.getD 13 undef = .int .u8 r.name.size := hdep ⟨5, .data⟩ (by simp) rfl
      exact op_new (exec_lit1 d0) hB.size ((Below.refl _ _).alloc (Nat.le_refl _) _) ⟨_, _, rfl, new_read _ _ _ (by simp only [List.map_singleton, bv]; rw [byteOf_small (by omega) (by omega)])⟩
    | 7, ho, hdep, _ => cases ho; exact op_pure (exec_field35 (by decide) t1) rfl
    | 8, ho, hdep, _ =>
      cases ho
      have d0 : a.tmps.getD 15 undef = .pointer (some ⟨w.heap.size, 0, none⟩) := hdep ⟨7, .data⟩ (by simp) rfl
      exact op_pure (exec_load9 d0 (hcell1 0)) rfl
    | 9, ho, hdep, _ =>
      cases ho
      have d0 : a.tmps.getD 16 undef = .string r.name := hdep ⟨8, .data⟩ (by simp) rfl
      obtain ⟨p', c', w', hr, hb, hrd⟩ := exec_ofStr (w := w1) d0
      have hsz : r.name.data.toList.length = r.name.size := by simp
      exact op_new hr hB.size hb ⟨p', c', by rw [hsz], hrd⟩
    | 10, ho, hdep, _ => cases ho; exact op_pure (exec_field35 (by decide) t1) rfl
    | 11, ho, hdep, _ =>
      cases ho
      have d0 : a.tmps.getD 18 undef = .pointer (some ⟨w.heap.size, 1, none⟩) := hdep ⟨10, .data⟩ (by simp) rfl
      exact op_pure (exec_load2 d0 (hcell1 1)) rfl
    | 12, ho, hdep, _ =>
      cases ho
      have d0 : a.tmps.getD 19 undef = .int .i64 r.start := hdep ⟨11, .data⟩ (by simp) rfl
      exact op_callN (exec_call2 Try.func42 (by decide) rfl d0) hB.size (little_any r.start 4 w1 0 (by omega) (by omega) (by omega)) fun v w' hg => hg.sb
    | 13, ho, hdep, _ => cases ho; exact op_pure (exec_field35 (by decide) t1) rfl
    | 14, ho, hdep, _ =>
      cases ho
      have d0 : a.tmps.getD 21 undef = .pointer (some ⟨w.heap.size, 2, none⟩) := hdep ⟨13, .data⟩ (by simp) rfl
      exact op_pure (exec_load2 d0 (hcell1 2)) rfl
    | 15, ho, hdep, _ =>
      cases ho
      have d0 : a.tmps.getD 22 undef = .int .i64 r.step := hdep ⟨14, .data⟩ (by simp) rfl
      exact op_callN (exec_call2 Try.func42 (by decide) rfl d0) hB.size (little_any r.step 2 w1 0 (by omega) (by omega) (by omega)) fun v w' hg => hg.sb
    | 16, ho, hdep, _ => cases ho; exact op_pure rfl t3
    | 17, ho, hdep, _ =>
      cases ho
      have d0 : a.tmps.getD 24 undef = .slice a3 (packL r.vals).length c3 := hdep ⟨16, .data⟩ (by simp) rfl
      exact op_pure (exec_lenB d0) rfl
    | 18, ho, hdep, _ =>
      cases ho
      have d0 : a.tmps.getD 25 undef = .int .i64 (packL r.vals).length := hdep ⟨17, .data⟩ (by simp) rfl
      exact op_callN (exec_call2 Try.func42 (by decide) rfl d0) hB.size (little_any ((packL r.vals).length : Int) 2 w1 0 (by omega) (by omega) (by omega)) fun v w' hg => hg.sb
    | 19, ho, hdep, _ => cases ho; exact op_pure rfl t3
    | 20, ho, hdep, _ =>
      cases ho
      obtain ⟨p0, c0, d0, r0⟩ : SB riv (a.tmps.getD 9 undef) w1 := hdep ⟨1, .data⟩ (by simp) rfl
      obtain ⟨p1, c1, d1, r1⟩ : SB [byteOf (r.name.size : Int)] (a.tmps.getD 14 undef) w1 := hdep ⟨6, .data⟩ (by simp) rfl
      obtain ⟨p2, c2, d2, r2⟩ : SB r.name.data.toList (a.tmps.getD 17 undef) w1 := hdep ⟨9, .data⟩ (by simp) rfl
      obtain ⟨p3, c3', d3, r3⟩ : SB (leB 4 r.start) (a.tmps.getD 20 undef) w1 := hdep ⟨12, .data⟩ (by simp) rfl
      obtain ⟨p4, c4, d4, r4⟩ : SB (leB 2 r.step) (a.tmps.getD 23 undef) w1 := hdep ⟨15, .data⟩ (by simp) rfl
      obtain ⟨p5, c5, d5, r5⟩ : SB (leB 2 ((packL r.vals).length : Int)) (a.tmps.getD 26 undef) w1 := hdep ⟨18, .data⟩ (by simp) rfl
      have d6 : a.tmps.getD 27 undef = .slice a3 (packL r.vals).length c3 := hdep ⟨19, .data⟩ (by simp) rfl
      have r6 : ReadB w1 a3 (packL r.vals) := HR3.out.below hB
      have hb := (Below.refl w1.heap.size w1).alloc (Nat.le_refl _) (.cells #[.slice p0 riv.length c0, .slice p1 [byteOf (r.name.size : Int)].length c1, .slice p2 r.name.data.toList.length c2, .slice p3 (leB 4 r.start).length c3', .slice p4 (leB 2 r.step).length c4, .slice p5 (leB 2 ((packL r.vals).length : Int)).length c5, .slice a3 (packL r.vals).length c3] 54)
      refine op_new (exec_lit7 d0 d1 d2 d3 d4 d5 d6) hB.size hb ⟨_, rfl, by simp, fun k l hk => ?_⟩
      rw [World.cell?_alloc_new]
      match k, hk with
      | 0, hk => cases hk; exact ⟨_, _, rfl, r0.below hb⟩
      | 1, hk => cases hk; exact ⟨_, _, rfl, r1.below hb⟩
      | 2, hk => cases hk; exact ⟨_, _, rfl, r2.below hb⟩
      | 3, hk => cases hk; exact ⟨_, _, rfl, r3.below hb⟩
      | 4, hk => cases hk; exact ⟨_, _, rfl, r4.below hb⟩
      | 5, hk => cases hk; exact ⟨_, _, rfl, r5.below hb⟩
      | 6, hk => cases hk; exact ⟨_, _, rfl, r6.below hb⟩
      | k + 7, hk => cases hk
    | 21, ho, hdep, _ =>
      cases ho
      obtain ⟨g, d0, hss⟩ : ∃ g, a.tmps.getD 28 undef = .slice (some ⟨g, 0, none⟩) 7 7 ∧ InSS w1 g (piecesB r) := hdep ⟨20, .data⟩ (by simp) rfl
      have hc := concat_any g 7 (piecesB r) w1 0 hss (piecesB_ne HV.out) (by unfold piecesB; simp) (by rw [pieces_flat]; have := headB_len HV.out; omega) (by unfold piecesB; simp)
      rw [pieces_flat] at hc
      exact op_callN (exec_call1 Try.func41 (by decide) rfl d0) hB.size hc fun v w' hg => ⟨hB.trans (hg.below.mono hB.size), Nat.le_trans hB.size hg.base, lower hg.row hB.size⟩
    | 22, ho, hdep, _ =>
      cases ho
      have d0 : GrowB W.heap.size W w1 (headB r) (a.tmps.getD 29 undef) := hdep ⟨21, .data⟩ (by simp) rfl
      exact op_pure rfl d0
    | i + 23, ho, hdep, _ => cases ho
  · intro v w' hS hB
    have h22 : GrowB W.heap.size W w' (headB r) (v 22) := hS 22 (by decide)
    have H22 := Lib.hid h22
    clear hS h22
    simp only [putAll, dstAt, List.size_toArray, List.length_cons, List.length_nil, Nat.reduceAdd, List.range_succ, List.range_zero, List.nil_append, List.cons_append, List.foldl_cons, List.foldl_nil, Act.put, List.getElem?_toArray, List.getElem?_cons_succ, List.getElem?_cons_zero, Option.bind_some, Option.getD_some, List.setIfInBounds_toArray, List.set_cons_succ, List.set_cons_zero] at H22 ⊢
    generalize v 22 = v22 at H22 ⊢
    obtain ⟨a4, c4, rfl, hr4, -⟩ := H22.out.read
    have hcv := fun q => conv_back (w := w'.drewN q) (c := c4) hr4
    have hcv0 := conv_back (w := w') (c := c4) hr4
    have hbd := checkL_bd (headB r) 0 (by omega) (by omega)
    have hhl := headB_len HV.out
    have HB := Lib.hid hB
    clear hr4 hB
    go_wp2_with (fail)
    refine (check_any (strOf (headB r)) 0 w' (by rw [strOf_size]; omega) (by omega) (by omega)).mono ?_
    rintro e w2 ⟨rfl, rfl⟩
    rw [show (strOf (headB r)).data.toList = headB r from by unfold strOf; simp]
    clear hcv hcv0
    go_wp2_with (fail)
    refine (little_any (checkL 0 (headB r)) 2 w2 0 hbd.1 (by omega) (by omega)).mono ?_
    rintro e w3 ⟨v5', W5, q5, rfl, rfl, hg5⟩
    obtain ⟨a5, c5, rfl, hr5, -⟩ := hg5.read
    have H23 := Lib.hid (H22.out.mono hg5.below)
    have HR5 := Lib.hid hr5
    have hlb : (leB 2 (checkL 0 (headB r))).length = 2 := leB_length 2 _
    have hlne : leB 2 (checkL 0 (headB r)) ≠ [] := by intro e; rw [e] at hlb; cases hlb
    have HLB := Lib.hid hlb
    have HLN := Lib.hid hlne
    clear hg5 hr5 hlb hlne
    go_wp2_with (at_builtin; refine wpl_bytes (by rw [HLB.out]; omega) HLN.out H23.out HR5.out rfl rfl ?_; intro v' W4 HG4)
    have HG4' : GrowB W.heap.size W W4 (storeB r) v' := HG4
    clear HG4
    obtain ⟨a6, c6, rfl, hr6, -⟩ := HG4'.read
    have hcv6 := conv_back (w := W4) (c := c6) hr6
    have HB4 := Lib.hid HG4'.below
    clear hr6 HG4'
    rw [hcv6]
    go_wp2_with (fail)
    go_ret
    have b1 : Below w.heap.size w W := HB0.out.trans (HG.out.below.mono HB0.out.size)
    exact ⟨W4, 0, rfl, rfl, b1.trans (HB4.out.mono b1.size)⟩
end Go.Proofs.Yteeficdlpoladaa
