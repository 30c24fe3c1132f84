/- The ideals of a monoid's elements: their block, and the region that makes it. -/
import Derived.Test.YtneonacdjmfaoaaG1
namespace Go.Proofs.Ytneonacdjmfaoaa
open Go.RowKit
set_option maxRecDepth 100000
set_option linter.unusedSimpArgs false
set_option linter.unusedVariables false

abbrev TSS : TypeId := 112
abbrev TD : TypeId := 114
theorem infoT : (Try.prog.info? TS).map (fun i => (i.zero, i.size, i.bytes)) = some (some (.agg #[U 0, U 0, U 0, U 0, U 0]), 5, 40) := by kernel_rfl
theorem made_five (n : Nat) : (madeCells (Value.agg #[U 0, U 0, U 0, U 0, U 0]).cells n).toList = List.replicate n (U 0) := by
  have hz : ∀ j, j < 5 → ((Value.agg #[U 0, U 0, U 0, U 0, U 0]).cells)[j]! = U 0 := by
    intro j hj
    match j, hj with
    | 0, _ => rfl
    | 1, _ => rfl
    | 2, _ => rfl
    | 3, _ => rfl
    | 4, _ => rfl
  refine List.ext_getElem (by simp [madeCells]) fun j h1 h2 => ?_
  rw [List.getElem_replicate]
  simp only [madeCells, Array.toList_map, List.getElem_map]
  exact hz _ (Nat.mod_lt _ (by decide))
theorem madeS {w : World} {B n h : Nat} (hr : w.ownsRow B TS 5 (.slice (some ⟨h, 0, none⟩) n n) n (madeCells (Value.agg #[U 0, U 0, U 0, U 0, U 0]).cells (n * 5)).toList) : Sts w h n fun _ _ => false := by
  rw [made_five] at hr
  rcases hr.2 with ⟨he, _⟩ | ⟨g, cap, cur, he, hg, hh, hn, hm, hs, ht⟩
  · cases he
  · injection he with he1 _ he2
    injection he1 with he1
    injection he1 with he1
    subst he1 he2
    refine ⟨cur, hh, hs, fun i hi j hj => ?_⟩
    have hl : i * 5 + j < n * 5 := by omega
    have h2 : (cur.toList.take (n * 5))[i * 5 + j]? = some (U 0) := by rw [ht, List.getElem?_replicate, if_pos hl]
    rw [List.getElem?_take, if_pos hl, Array.getElem?_toList] at h2
    show _ = some (U (wd (fun _ => false) j))
    rw [h2, wd_none]
theorem wp_makeT {w : World} {o : Oper} {a : Act} {K : Act → World → Prop} {Q : Exit → Act → World → Prop} (l c : Operand) (hop : o.op = Op.makeSlice TSS l c) (n : Nat) (hl : a.eval l = I n) (hc : a.eval c = I n) (hn : n < 1073741824)
    (h : ∀ w', Sts w' w.heap.size n (fun _ _ => false) → w.grownBy w' none → K (a.put o.dst (.slice (some ⟨w.heap.size, 0, none⟩) n n)) w') : o.wp Try.prog a w K Q := by
  obtain ⟨i, hi, hz0, hz1, hz2⟩ := info_parts infoT
  obtain ⟨w', hrun, r1, r2⟩ := run_make_full (P := Try.prog) w w.heap.size TSS TS i (.agg #[U 0, U 0, U 0, U 0, U 0]) 5 Try.underlying112 hi hz0 hz1 .i64 .i64 n (by rw [hz2]; omega) (by unfold maxLen; omega) (Nat.le_refl _)
  unfold Oper.wp
  simp [execOp, hop, hl, hc, hrun, Result.andThen]
  exact h w' (madeS r1) r2

/-- the ideals' block d: three rows of n sets -/
structure Ide (w : World) (d n gl gr gb : Nat) (L R B : Nat → Nat → Bool) : Prop where
  blk : Blk w d TD #[.slice (some ⟨gl, 0, none⟩) n n, .slice (some ⟨gr, 0, none⟩) n n, .slice (some ⟨gb, 0, none⟩) n n]
  l : Sts w gl n L
  r : Sts w gr n R
  b : Sts w gb n B
  lr : gl ≠ gr
  lb : gl ≠ gb
  rb : gr ≠ gb
  dl : d ≠ gl
  dr : d ≠ gr
  db : d ≠ gb
section
variable {w w' : World} {d n gl gr gb : Nat} {L R B L' R' B' : Nat → Nat → Bool}
theorem Ide.below {m : Nat} (h : Ide w d n gl gr gb L R B) (hb : Below m w w') (hm : w.heap.size ≤ m) : Ide w' d n gl gr gb L R B :=
  ⟨h.blk.below hb (Nat.lt_of_lt_of_le h.blk.lt hm), h.l.below hb (Nat.lt_of_lt_of_le h.l.lt hm), h.r.below hb (Nat.lt_of_lt_of_le h.r.lt hm), h.b.below hb (Nat.lt_of_lt_of_le h.b.lt hm), h.lr, h.lb, h.rb, h.dl, h.dr, h.db⟩
theorem Ide.congr (h : Ide w d n gl gr gb L R B) (hl : ∀ a, a < n → ∀ p, L a p = L' a p) (hr : ∀ a, a < n → ∀ p, R a p = R' a p) (hb : ∀ a, a < n → ∀ p, B a p = B' a p) : Ide w d n gl gr gb L' R' B' :=
  ⟨h.blk, h.l.congr fun i hi j _ => wd_ext fun _ _ => hl i hi _, h.r.congr fun i hi j _ => wd_ext fun _ _ => hr i hi _, h.b.congr fun i hi j _ => wd_ext fun _ _ => hb i hi _, h.lr, h.lb, h.rb, h.dl, h.dr, h.db⟩
theorem Ide.setL (h : Ide w d n gl gr gb L R B) (hg : w.grownBy w' (some gl)) (hL : Sts w' gl n L') : Ide w' d n gl gr gb L' R B :=
  ⟨h.blk.grown hg (by simpa using h.dl), hL, h.r.grown hg (by simpa using Ne.symm h.lr), h.b.grown hg (by simpa using Ne.symm h.lb), h.lr, h.lb, h.rb, h.dl, h.dr, h.db⟩
theorem Ide.setR (h : Ide w d n gl gr gb L R B) (hg : w.grownBy w' (some gr)) (hR : Sts w' gr n R') : Ide w' d n gl gr gb L R' B :=
  ⟨h.blk.grown hg (by simpa using h.dr), h.l.grown hg (by simpa using h.lr), hR, h.b.grown hg (by simpa using Ne.symm h.rb), h.lr, h.lb, h.rb, h.dl, h.dr, h.db⟩
theorem Ide.setB (h : Ide w d n gl gr gb L R B) (hg : w.grownBy w' (some gb)) (hB : Sts w' gb n B') : Ide w' d n gl gr gb L R B' :=
  ⟨h.blk.grown hg (by simpa using h.db), h.l.grown hg (by simpa using h.lb), h.r.grown hg (by simpa using h.rb), hB, h.lr, h.lb, h.rb, h.dl, h.dr, h.db⟩
theorem Ide.c0 (h : Ide w d n gl gr gb L R B) : w.cell? ⟨d, 0, none⟩ = some (.slice (some ⟨gl, 0, none⟩) n n) := h.blk.cell 0
theorem Ide.c1 (h : Ide w d n gl gr gb L R B) : w.cell? ⟨d, 1, none⟩ = some (.slice (some ⟨gr, 0, none⟩) n n) := h.blk.cell 1
theorem Ide.c2 (h : Ide w d n gl gr gb L R B) : w.cell? ⟨d, 2, none⟩ = some (.slice (some ⟨gb, 0, none⟩) n n) := h.blk.cell 2
end
theorem bel_grown {B g : Nat} {a w w' : World} (h : Below B a w) (hg : w.grownBy w' (some g)) (hB : B ≤ w.heap.size) (hge : B ≤ g) : Below B a w' :=
  h.grown hg hB (fun k hk => by injection hk with hk; subst hk; exact hge)

/-- the ghost of the region that makes the ideals -/
structure G2g where
  q1 : Nat
  q3 : Nat
  q5 : Nat
  q7 : Nat
structure S2g (w0 : World) (n : Nat) (b1 b3 b5 b7 : Bool) (s : G2g) (w : World) : Prop where
  bel : Below w0.heap.size w0 w
  s1 : b1 = true → Sts w s.q1 n (fun _ _ => false) ∧ w0.heap.size ≤ s.q1
  s3 : b3 = true → Sts w s.q3 n (fun _ _ => false) ∧ w0.heap.size ≤ s.q3
  s5 : b5 = true → Sts w s.q5 n (fun _ _ => false) ∧ w0.heap.size ≤ s.q5
  d13 : b1 = true → b3 = true → s.q1 ≠ s.q3
  d15 : b1 = true → b5 = true → s.q1 ≠ s.q5
  d35 : b3 = true → b5 = true → s.q3 ≠ s.q5
  s7 : b7 = true → b1 = true ∧ b3 = true ∧ b5 = true ∧ w0.heap.size ≤ s.q7 ∧ Ide w s.q7 n s.q1 s.q3 s.q5 (fun _ _ => false) (fun _ _ => false) (fun _ _ => false)
section
variable {w0 w w' : World} {n : Nat} {b1 b3 b5 b7 : Bool} {s : G2g}
theorem S2g.start (w0 : World) (n : Nat) (s : G2g) : S2g w0 n false false false false s w0.drew :=
  ⟨(Below.refl _ _).drew, by simp, by simp, by simp, by simp, by simp, by simp, by simp⟩
theorem S2g.do1 (h : S2g w0 n false b3 b5 false s w) (hs : Sts w' w.heap.size n (fun _ _ => false)) (hg : w.grownBy w' none) : S2g w0 n true b3 b5 false { s with q1 := w.heap.size } w' :=
  ⟨h.bel.grown hg h.bel.size (fun k hk => by cases hk), fun _ => ⟨hs, h.bel.size⟩, fun e => ⟨(h.s3 e).1.grown hg (by simp), (h.s3 e).2⟩, fun e => ⟨(h.s5 e).1.grown hg (by simp), (h.s5 e).2⟩,
    fun _ e => by have := (h.s3 e).1.lt; show w.heap.size ≠ s.q3; omega, fun _ e => by have := (h.s5 e).1.lt; show w.heap.size ≠ s.q5; omega, h.d35, fun e => (by cases e)⟩
theorem S2g.do3 (h : S2g w0 n b1 false b5 false s w) (hs : Sts w' w.heap.size n (fun _ _ => false)) (hg : w.grownBy w' none) : S2g w0 n b1 true b5 false { s with q3 := w.heap.size } w' :=
  ⟨h.bel.grown hg h.bel.size (fun k hk => by cases hk), fun e => ⟨(h.s1 e).1.grown hg (by simp), (h.s1 e).2⟩, fun _ => ⟨hs, h.bel.size⟩, fun e => ⟨(h.s5 e).1.grown hg (by simp), (h.s5 e).2⟩,
    fun e _ => by have := (h.s1 e).1.lt; show s.q1 ≠ w.heap.size; omega, h.d15, fun _ e => by have := (h.s5 e).1.lt; show w.heap.size ≠ s.q5; omega, fun e => (by cases e)⟩
theorem S2g.do5 (h : S2g w0 n b1 b3 false false s w) (hs : Sts w' w.heap.size n (fun _ _ => false)) (hg : w.grownBy w' none) : S2g w0 n b1 b3 true false { s with q5 := w.heap.size } w' :=
  ⟨h.bel.grown hg h.bel.size (fun k hk => by cases hk), fun e => ⟨(h.s1 e).1.grown hg (by simp), (h.s1 e).2⟩, fun e => ⟨(h.s3 e).1.grown hg (by simp), (h.s3 e).2⟩, fun _ => ⟨hs, h.bel.size⟩,
    h.d13, fun e _ => by have := (h.s1 e).1.lt; show s.q1 ≠ w.heap.size; omega, fun e _ => by have := (h.s3 e).1.lt; show s.q3 ≠ w.heap.size; omega, fun e => (by cases e)⟩
theorem S2g.do7 (h : S2g w0 n true true true false s w) : S2g w0 n true true true true { s with q7 := w.heap.size } (w.alloc (.cells #[.slice (some ⟨s.q1, 0, none⟩) n n, .slice (some ⟨s.q3, 0, none⟩) n n, .slice (some ⟨s.q5, 0, none⟩) n n] TD)) := by
  have hg := World.grownBy_alloc w (.cells #[.slice (some ⟨s.q1, 0, none⟩) n n, .slice (some ⟨s.q3, 0, none⟩) n n, .slice (some ⟨s.q5, 0, none⟩) n n] TD) none
  have l1 := (h.s1 rfl).1.lt
  have l3 := (h.s3 rfl).1.lt
  have l5 := (h.s5 rfl).1.lt
  have h1 := (h.s1 rfl).1.grown hg (by simp)
  have h3 := (h.s3 rfl).1.grown hg (by simp)
  have h5 := (h.s5 rfl).1.grown hg (by simp)
  exact ⟨h.bel.grown hg h.bel.size (fun k hk => by cases hk), fun _ => ⟨h1, (h.s1 rfl).2⟩, fun _ => ⟨h3, (h.s3 rfl).2⟩, fun _ => ⟨h5, (h.s5 rfl).2⟩, h.d13, h.d15, h.d35,
    fun _ => ⟨rfl, rfl, rfl, h.bel.size, ⟨Blk.new w _ _, h1, h3, h5, h.d13 rfl rfl, h.d15 rfl rfl, h.d35 rfl rfl, by show w.heap.size ≠ s.q1; omega, by show w.heap.size ≠ s.q3; omega, by show w.heap.size ≠ s.q5; omega⟩⟩⟩
end
end Go.Proofs.Ytneonacdjmfaoaa
