/- The state of the search for the elements of a monoid; no conditions beyond those that each theorem states. -/
import Derived.Test.YtknknljkmkfmoaaN2
namespace Go.Proofs.Ytknknljkmkfmoaa
open Go.RowKit
set_option maxRecDepth 100000

theorem rangeOf {α : Type} (P : α → Prop) (d : α) {l : List α} (h : ∀ j, j < l.length → P (l.getD j d)) : ∀ x ∈ l, P x := by
  intro x hx
  obtain ⟨j, hj, rfl⟩ := List.getElem_of_mem hx
  have := h j hj
  simpa [List.getD, hj] using this

/-- what stands in memory while the search goes on: found maps vF, their words vW, the block gM of the monoid with its table of places -/
structure NSt (n : Int) (w0 : World) (ps : Met) (vs : List Value) (pl : Nat → Int) (vF vW : Value) (w : World) : Prop where
  bel : Below w0.heap.size w0 w
  mono : Mono w w0.heap.size (.slice none 0 0) (.slice none 0 0) pl
  plc : Plc n (ps.map (·.1)) pl
  f : OwM 31 w (w0.heap.size + 1) vF (ps.map (·.1))
  wd : OwV 42 w (w0.heap.size + 1) vW vs
  len : vs.length = ps.length
  ws : ∀ j, j < ps.length → OwI 2 w (w0.heap.size + 1) (gv vs j) (pm ps j).2
  nil_ : ∀ j, j < ps.length → (pm ps j).2 = [] → gv vs j = .slice none 0 0
  fw : ∀ g, vF.ownBlock = some g → vW.ownBlock ≠ some g
  fs : ∀ j, j < ps.length → ∀ g, (gv vs j).ownBlock = some g → vF.ownBlock ≠ some g ∧ vW.ownBlock ≠ some g
section
variable {n : Int} {w0 w w' : World} {ps : Met} {vs : List Value} {pl : Nat → Int} {vF vW : Value}
theorem NSt.below {m : Nat} (h : NSt n w0 ps vs pl vF vW w) (hb : Below m w w') (hm : w.heap.size ≤ m) : NSt n w0 ps vs pl vF vW w' where
  bel := h.bel.trans (hb.mono (by have := h.bel.size; omega))
  mono := h.mono.below hb (by have := h.mono.lt; omega)
  plc := h.plc
  f := h.f.below hb hm
  wd := h.wd.below hb hm
  len := h.len
  ws := fun j hj => (h.ws j hj).below hb hm
  nil_ := h.nil_
  fw := h.fw
  fs := h.fs
theorem NSt.alloc (h : NSt n w0 ps vs pl vF vW w) (o : Obj) : NSt n w0 ps vs pl vF vW (w.alloc o) := h.below ((Below.refl _ _).alloc (Nat.le_refl _) _) (Nat.le_refl _)
theorem NSt.drew (h : NSt n w0 ps vs pl vF vW w) : NSt n w0 ps vs pl vF vW w.drew := h.below (m := w.heap.size) (Below.refl _ _).drew (Nat.le_refl _)
end

/-! ### one step of the search: found, its words, and a new word are written -/
structure G15 where
  q2 : Nat
  v3 : Value
  v9 : Value
  q11 : Nat
  v12 : Value
  q13 : Nat
  v14 : Value
structure S15 (w0 w1 : World) (ps : Met) (vs : List Value) (pl : Nat → Int) (vF vW : Value) (m : M) (u : List Int) (k : Nat) (q : Nat) (b2 b3 b9 b11 b12 b13 b14 : Bool) (c : G15) (w : World) : Prop where
  size : w1.heap.size ≤ w.heap.size
  bel : Below w0.heap.size w0 w
  mono : Mono w w0.heap.size (.slice none 0 0) (.slice none 0 0) pl
  box : Six w q m
  ws : ∀ j, j < ps.length → OwI 2 w (w0.heap.size + 1) (gv vs j) (pm ps j).2
  f0 : b3 = false → OwM 31 w (w0.heap.size + 1) vF (ps.map (·.1))
  e0 : b14 = false → OwV 42 w (w0.heap.size + 1) vW vs
  s2 : b2 = true → b3 = false → Six w c.q2 m ∧ c.q2 < w.heap.size
  s3 : b3 = true → OwM 31 w (w0.heap.size + 1) c.v3 (ps.map (·.1) ++ [m]) ∧ ∀ g, c.v3.ownBlock = some g → vF.ownBlock = some g ∨ w1.heap.size ≤ g
  s9 : b9 = true → b12 = false → OwI 2 w w1.heap.size c.v9 u ∧ ∀ g, c.v9.ownBlock = some g → c.v3.ownBlock ≠ some g
  s11 : b11 = true → b12 = false → w.cell? ⟨c.q11, 0, none⟩ = some (I k) ∧ w1.heap.size ≤ c.q11 ∧ c.q11 < w.heap.size
  s12 : b12 = true → OwI 2 w w1.heap.size c.v12 (u ++ [(k : Int)]) ∧ ∀ g, c.v12.ownBlock = some g → c.v3.ownBlock ≠ some g
  s13 : b13 = true → b14 = false → w.cell? ⟨c.q13, 0, none⟩ = some c.v12 ∧ c.q13 < w.heap.size
  s14 : b14 = true → OwV 42 w (w0.heap.size + 1) c.v14 (vs ++ [c.v12]) ∧ ∀ g, c.v14.ownBlock = some g → c.v3.ownBlock ≠ some g ∧ c.v12.ownBlock ≠ some g ∧ (vW.ownBlock = some g ∨ w1.heap.size ≤ g)
section
variable {n : Int} {w0 w1 w w' : World} {ps : Met} {vs : List Value} {pl : Nat → Int} {vF vW : Value} {m : M} {u : List Int} {k q : Nat} {b2 b3 b9 b11 b12 b13 b14 : Bool} {c : G15}
theorem S15.start (h : NSt n w0 ps vs pl vF vW w1) (h6 : Six w1 q m) (c : G15) : S15 w0 w1 ps vs pl vF vW m u k q false false false false false false false c w1 where
  size := Nat.le_refl _
  bel := h.bel
  mono := h.mono
  box := h6
  ws := h.ws
  f0 := fun _ => h.f
  e0 := fun _ => h.wd
  s2 := fun h => by cases h
  s3 := fun h => by cases h
  s9 := fun h => by cases h
  s11 := fun h => by cases h
  s12 := fun h => by cases h
  s13 := fun h => by cases h
  s14 := fun h => by cases h
theorem S15.below (h : S15 w0 w1 ps vs pl vF vW m u k q b2 b3 b9 b11 b12 b13 b14 c w) (hb : Below w.heap.size w w') : S15 w0 w1 ps vs pl vF vW m u k q b2 b3 b9 b11 b12 b13 b14 c w' where
  size := Nat.le_trans h.size hb.size
  bel := h.bel.trans (hb.mono h.bel.size)
  mono := h.mono.below hb h.mono.lt
  box := h.box.below hb h.box.lt
  ws := fun j hj => (h.ws j hj).below hb (Nat.le_refl _)
  f0 := fun h3 => (h.f0 h3).below hb (Nat.le_refl _)
  e0 := fun h3 => (h.e0 h3).below hb (Nat.le_refl _)
  s2 := fun h2 h3 => ⟨(h.s2 h2 h3).1.below hb (h.s2 h2 h3).2, Nat.lt_of_lt_of_le (h.s2 h2 h3).2 hb.size⟩
  s3 := fun h3 => ⟨(h.s3 h3).1.below hb (Nat.le_refl _), (h.s3 h3).2⟩
  s9 := fun h9 h12 => ⟨(h.s9 h9 h12).1.below hb (Nat.le_refl _), (h.s9 h9 h12).2⟩
  s11 := fun h1 h2 => ⟨(hb.cell (p := ⟨c.q11, 0, none⟩) (h.s11 h1 h2).2.2).trans (h.s11 h1 h2).1, (h.s11 h1 h2).2.1, Nat.lt_of_lt_of_le (h.s11 h1 h2).2.2 hb.size⟩
  s12 := fun h3 => ⟨(h.s12 h3).1.below hb (Nat.le_refl _), (h.s12 h3).2⟩
  s13 := fun h1 h2 => ⟨(hb.cell (p := ⟨c.q13, 0, none⟩) (h.s13 h1 h2).2).trans (h.s13 h1 h2).1, Nat.lt_of_lt_of_le (h.s13 h1 h2).2 hb.size⟩
  s14 := fun h3 => ⟨(h.s14 h3).1.below hb (Nat.le_refl _), (h.s14 h3).2⟩
/-- [g] is laid -/
theorem S15.do2 (h : S15 w0 w1 ps vs pl vF vW m u k q b2 false b9 b11 b12 b13 b14 c w) : S15 w0 w1 ps vs pl vF vW m u k q true false b9 b11 b12 b13 b14 { c with q2 := w.heap.size } (w.alloc (.cells (mc m) 31)) :=
  have h' := h.below ((Below.refl w.heap.size w).alloc (Nat.le_refl _) (.cells (mc m) 31))
  { h' with s2 := fun _ _ => ⟨Blk.six (Blk.new w _ _), by simp⟩, s11 := h'.s11, s13 := h'.s13 }
theorem own_some {g n c : Nat} : (Value.slice (some ⟨g, 0, none⟩) n c).ownBlock = some g := rfl
theorem own_eq {g g' n c : Nat} (h : (Value.slice (some ⟨g, 0, none⟩) n c).ownBlock = some g') : g' = g := by
  rw [own_some] at h; injection h with h; exact h.symm
theorem grown_cell {w w' : World} {row : Option Nat} (hg : w.grownBy w' row) {b o : Nat} (hb : b < w.heap.size) (hr : row ≠ some b) : w'.cell? ⟨b, o, none⟩ = w.cell? ⟨b, o, none⟩ :=
  World.cell?_of_block (w := w) (a := ⟨b, o, none⟩) (hg.block b hb (fun e => hr e.symm))
/-- found has one map more -/
theorem S15.do3 (h : S15 w0 w1 ps vs pl vF vW m u k q true false false b11 false false false c w) (hN : NSt n w0 ps vs pl vF vW w1) (hq : ∀ g, vF.ownBlock = some g → g < q) {g' cap N : Nat}
    (hown : OwM 31 w' (w0.heap.size + 1) (.slice (some ⟨g', 0, none⟩) N cap) (ps.map (·.1) ++ [m])) (hgr : w.grownBy w' vF.ownBlock) (hor : vF.ownBlock = some g' ∨ g' = w.heap.size) :
    S15 w0 w1 ps vs pl vF vW m u k q true true false b11 false false false { c with v3 := .slice (some ⟨g', 0, none⟩) N cap } w' where
  size := Nat.le_trans h.size hgr.size
  bel := (h.f0 rfl).bel h.bel hgr (by omega) h.bel.size
  mono := h.mono.grown hgr fun e => by have := hN.f.lt _ e.symm; omega
  box := h.box.grown hgr fun e => by have := hq _ e.symm; omega
  ws := fun j hj => (h.ws j hj).grown hgr fun g hg => (hN.fs j hj g hg).1
  f0 := fun h => by cases h
  e0 := fun _ => (h.e0 rfl).grown hgr fun g hg e => hN.fw g e hg
  s2 := fun _ h => by cases h
  s3 := fun _ => ⟨hown, fun g hg => by
    obtain rfl := own_eq hg
    rcases hor with h1 | h1
    · exact .inl h1
    · right; have := h.size; omega⟩
  s9 := fun h => by cases h
  s11 := fun h1 h2 => ⟨(grown_cell hgr (h.s11 h1 h2).2.2 fun e => by have := hN.f.lt _ e; have := (h.s11 h1 h2).2.1; omega).trans (h.s11 h1 h2).1, (h.s11 h1 h2).2.1, Nat.lt_of_lt_of_le (h.s11 h1 h2).2.2 hgr.size⟩
  s12 := fun h => by cases h
  s13 := fun h => by cases h
  s14 := fun h => by cases h
/-- the word is copied -/
theorem S15.do9 (h : S15 w0 w1 ps vs pl vF vW m u k q b2 true false b11 false false false c w) {v : Value} (hb : Below w.heap.size w w') (ho : OwI 2 w' w.heap.size v u) :
    S15 w0 w1 ps vs pl vF vW m u k q b2 true true b11 false false false { c with v9 := v } w' :=
  have h' := h.below hb
  { h' with s9 := fun _ _ => ⟨ho.mono h.size, fun g hg e => by have := ho.lt g hg; have := (h.s3 rfl).1.lt g e; omega⟩, s2 := h'.s2, s3 := h'.s3, s11 := h'.s11, s12 := h'.s12, s13 := h'.s13, s14 := h'.s14 }
/-- [k] is laid -/
theorem S15.do11 (h : S15 w0 w1 ps vs pl vF vW m u k q b2 b3 b9 b11 b12 b13 b14 c w) : S15 w0 w1 ps vs pl vF vW m u k q b2 b3 b9 true b12 b13 b14 { c with q11 := w.heap.size } (w.alloc (.cells #[I k] 2)) :=
  have h' := h.below ((Below.refl w.heap.size w).alloc (Nat.le_refl _) (.cells #[I k] 2))
  { h' with s11 := fun _ _ => ⟨(Blk.new w 2 #[I k]).cell 0, h.size, by simp⟩, s2 := h'.s2, s3 := h'.s3, s9 := h'.s9, s12 := h'.s12, s13 := h'.s13, s14 := h'.s14 }
/-- the word has one number more -/
theorem S15.do12 (h : S15 w0 w1 ps vs pl vF vW m u k q b2 true true true false false false c w) (hN : NSt n w0 ps vs pl vF vW w1) (hq : q < w1.heap.size) {g' cap N : Nat}
    (hown : OwI 2 w' w1.heap.size (.slice (some ⟨g', 0, none⟩) N cap) (u ++ [(k : Int)])) (hgr : w.grownBy w' c.v9.ownBlock) (hor : c.v9.ownBlock = some g' ∨ g' = w.heap.size) :
    S15 w0 w1 ps vs pl vF vW m u k q b2 true true true true false false { c with v12 := .slice (some ⟨g', 0, none⟩) N cap } w' where
  size := Nat.le_trans h.size hgr.size
  bel := (h.s9 rfl rfl).1.bel h.bel hgr hN.bel.size h.bel.size
  mono := h.mono.grown hgr fun e => by have := (h.s9 rfl rfl).1.lt _ e.symm; have := hN.mono.lt; omega
  box := h.box.grown hgr fun e => by have := (h.s9 rfl rfl).1.lt _ e.symm; omega
  ws := fun j hj => (h.ws j hj).grown hgr fun g hg e => by have := (h.s9 rfl rfl).1.lt _ e; have := (hN.ws j hj).lt g hg; omega
  f0 := fun h => by cases h
  e0 := fun _ => (h.e0 rfl).grown hgr fun g hg e => by have := (h.s9 rfl rfl).1.lt _ e; have := hN.wd.lt g hg; omega
  s2 := fun _ h => by cases h
  s3 := fun _ => ⟨(h.s3 rfl).1.grown hgr fun g hg e => (h.s9 rfl rfl).2 g e hg, (h.s3 rfl).2⟩
  s9 := fun _ h => by cases h
  s11 := fun _ h => by cases h
  s12 := fun _ => ⟨hown, fun g hg e => by
    obtain rfl := own_eq hg
    rcases hor with h1 | h1
    · exact (h.s9 rfl rfl).2 _ h1 e
    · have := (h.s3 rfl).1.lt _ e; omega⟩
  s13 := fun h => by cases h
  s14 := fun h => by cases h
/-- [word] is laid -/
theorem S15.do13 (h : S15 w0 w1 ps vs pl vF vW m u k q b2 b3 b9 b11 true false false c w) : S15 w0 w1 ps vs pl vF vW m u k q b2 b3 b9 b11 true true false { c with q13 := w.heap.size } (w.alloc (.cells #[c.v12] 42)) :=
  have h' := h.below ((Below.refl w.heap.size w).alloc (Nat.le_refl _) (.cells #[c.v12] 42))
  { h' with s13 := fun _ _ => ⟨(Blk.new w 42 #[c.v12]).cell 0, by simp⟩, s2 := h'.s2, s3 := h'.s3, s9 := h'.s9, s11 := h'.s11, s12 := h'.s12, s14 := h'.s14 }
/-- the words have one more -/
theorem S15.do14 (h : S15 w0 w1 ps vs pl vF vW m u k q b2 true b9 b11 true true false c w) (hN : NSt n w0 ps vs pl vF vW w1) (hq : ∀ g, vW.ownBlock = some g → g < q) {g' cap N : Nat}
    (hown : OwV 42 w' (w0.heap.size + 1) (.slice (some ⟨g', 0, none⟩) N cap) (vs ++ [c.v12])) (hgr : w.grownBy w' vW.ownBlock) (hor : vW.ownBlock = some g' ∨ g' = w.heap.size) :
    S15 w0 w1 ps vs pl vF vW m u k q b2 true b9 b11 true true true { c with v14 := .slice (some ⟨g', 0, none⟩) N cap } w' where
  size := Nat.le_trans h.size hgr.size
  bel := (h.e0 rfl).bel h.bel hgr (by omega) h.bel.size
  mono := h.mono.grown hgr fun e => by have := hN.wd.lt _ e.symm; omega
  box := h.box.grown hgr fun e => by have := hq _ e.symm; omega
  ws := fun j hj => (h.ws j hj).grown hgr fun g hg => (hN.fs j hj g hg).2
  f0 := fun h => by cases h
  e0 := fun h => by cases h
  s2 := fun _ h => by cases h
  s3 := fun _ => ⟨(h.s3 rfl).1.grown hgr fun g hg e => by
    rcases (h.s3 rfl).2 g hg with h1 | h1
    · exact hN.fw g h1 e
    · have := hN.wd.lt _ e; omega, (h.s3 rfl).2⟩
  s9 := fun _ h => by cases h
  s11 := fun _ h => by cases h
  s12 := fun _ => ⟨(h.s12 rfl).1.grown hgr fun g hg e => by have := (h.s12 rfl).1.lt g hg; have := hN.wd.lt _ e; omega, (h.s12 rfl).2⟩
  s13 := fun _ h => by cases h
  s14 := fun _ => ⟨hown, fun g hg => by
    obtain rfl := own_eq hg
    have hsz := h.size
    refine ⟨fun e => ?_, fun e => ?_, ?_⟩
    · rcases hor with h1 | h1
      · rcases (h.s3 rfl).2 _ e with h2 | h2
        · exact hN.fw _ h2 h1
        · have := hN.wd.lt _ h1; omega
      · have := (h.s3 rfl).1.lt _ e; omega
    · rcases hor with h1 | h1
      · have := (h.s12 rfl).1.lt _ e; have := hN.wd.lt _ h1; omega
      · have := (h.s12 rfl).1.lt _ e; omega
    · rcases hor with h1 | h1
      · exact .inl h1
      · right; omega⟩
/-- the search has gone on by one map -/
theorem S15.fin (h : S15 w0 w1 ps vs pl vF vW m u k q b2 true b9 b11 true b13 true c w) (hN : NSt n w0 ps vs pl vF vW w1) (hv : Valid m) (hp : m.p = n) (hin : m ∉ ps.map (·.1)) :
    NSt n w0 (ps ++ [(m, u ++ [(k : Int)])]) (vs ++ [c.v12]) (fun j => if j = (num m).toNat then (ps.length : Int) + 1 else pl j) c.v3 c.v14 (w.setCell ⟨w0.heap.size, 2 + (num m).toNat, none⟩ (I ((ps.length : Int) + 1))) := by
  have hb := num_bd hv
  have far : ∀ g, w0.heap.size + 1 ≤ g → (w.setCell ⟨w0.heap.size, 2 + (num m).toNat, none⟩ (I ((ps.length : Int) + 1))).heap[g]? = w.heap[g]? := fun g hg =>
    Below.heap_setCell w _ _ g (by show g ≠ w0.heap.size; omega)
  have hw1 := hN.mono.lt
  have hvl := hN.len
  refine ⟨h.bel.setCell (p := ⟨w0.heap.size, 2 + (num m).toNat, none⟩) (Nat.le_refl _) _, h.mono.setp (by omega) _, ?_, ?_, ?_, by simp [hvl], ?_, ?_, ?_, ?_⟩
  · have := hN.plc.step hv hp hin
    simpa using this
  · rw [List.map_append]
    exact (h.s3 rfl).1.keep fun g hg => far g ((h.s3 rfl).1.lt g hg).1
  · exact (h.s14 rfl).1.keep fun g hg => far g ((h.s14 rfl).1.lt g hg).1
  · intro j hj
    by_cases e : j = ps.length
    · subst e
      rw [gv_last hvl]
      have e2 : pm (ps ++ [(m, u ++ [(k : Int)])]) ps.length = (m, u ++ [(k : Int)]) := by rw [pm_eq (by simp), List.getElem_append_right (by simp)]; simp
      rw [e2]
      exact ((h.s12 rfl).1.mono (by omega)).keep fun g hg => far g (by have := ((h.s12 rfl).1.lt g hg).1; omega)
    · have hj' : j < ps.length := by simp at hj; omega
      rw [gv_app (by omega), pm_app hj']
      exact (h.ws j hj').keep fun g hg => far g ((h.ws j hj').lt g hg).1
  · intro j hj hnil
    by_cases e : j = ps.length
    · subst e
      have e2 : pm (ps ++ [(m, u ++ [(k : Int)])]) ps.length = (m, u ++ [(k : Int)]) := by rw [pm_eq (by simp), List.getElem_append_right (by simp)]; simp
      rw [e2] at hnil
      simp at hnil
    · have hj' : j < ps.length := by simp at hj; omega
      rw [pm_app hj'] at hnil
      rw [gv_app (by omega)]
      exact hN.nil_ j hj' hnil
  · intro g hg e
    exact ((h.s14 rfl).2 g e).1 hg
  · intro j hj g hg
    by_cases e : j = ps.length
    · subst e
      rw [gv_last hvl] at hg
      refine ⟨(h.s12 rfl).2 g hg, fun e => ((h.s14 rfl).2 g e).2.1 hg⟩
    · have hj' : j < ps.length := by simp at hj; omega
      rw [gv_app (by omega)] at hg
      have hl := (hN.ws j hj').lt g hg
      refine ⟨fun e => ?_, fun e => ?_⟩
      · rcases (h.s3 rfl).2 g e with h1 | h1
        · exact (hN.fs j hj' g hg).1 h1
        · omega
      · rcases ((h.s14 rfl).2 g e).2.2 with h1 | h1
        · exact (hN.fs j hj' g hg).2 h1
        · omega
end

/-! ### the monoid that is made -/
theorem grownBy_below {w w1 w' : World} {row : Option Nat} (h : w.grownBy w1 row) (hb : Below w1.heap.size w1 w') : w.grownBy w' row :=
  ⟨hb.os.trans h.os, hb.tape.trans h.tape, hb.output.trans h.output, Nat.le_trans h.size hb.size, fun k hk hne => (hb.block k (Nat.lt_of_lt_of_le hk h.size)).trans (h.block k hk hne)⟩
theorem grownBy_grown {w w1 w' : World} {row row' : Option Nat} (h : w.grownBy w1 row) (hg : w1.grownBy w' row') (hr : ∀ k, k < w.heap.size → row' = some k → row = some k) : w.grownBy w' row :=
  ⟨hg.os.trans h.os, hg.tape.trans h.tape, hg.output.trans h.output, Nat.le_trans h.size hg.size, fun k hk hne => (hg.block k (Nat.lt_of_lt_of_le hk h.size) (fun e => hne (hr k hk e.symm).symm)).trans (h.block k hk hne)⟩
theorem grownBy_set' {w w1 : World} {g o : Nat} {u : Value} (h : w.grownBy w1 (some g)) : w.grownBy (w1.setCell ⟨g, o, none⟩ u) (some g) :=
  ⟨h.os, h.tape, h.output, by simpa [World.setCell] using h.size, fun j hj hne => (Below.heap_setCell w1 _ u j (fun e => hne (by rw [e]))).trans (h.block j hj hne)⟩
theorem grownBy_bel {w0 w w' : World} {B g : Nat} (hb : Below B w0 w) (hg : w.grownBy w' (some g)) (hB : B ≤ g) (hs : B ≤ w.heap.size) : Below B w0 w' :=
  hb.grown hg hs fun k hk => by injection hk with hk; omega

structure MonAt (n : Int) (B : Nat) (g : Nat) (E : List M) (us : List (List Int)) (w : World) : Prop where
  ge : B ≤ g
  ex : ∃ ev wv pl vs, Mono w g ev wv pl ∧ Plc n E pl ∧ OwM 31 w B ev E ∧ OwV 42 w B wv vs ∧ vs.length = E.length ∧ us.length = E.length ∧ ∀ j, j < E.length → OwI 2 w B (gv vs j) (us.getD j [])

structure G23 where
  q16 : Nat
  v17 : Value
/-- one more word is handed to the monoid -/
structure S23 (wS : World) (g0 : Nat) (vE wk : Value) (pl : Nat → Int) (L : List Value) (u : Value) (qb : Nat) (f : M) (b16 b17 b20 : Bool) (c : G23) (w : World) : Prop where
  gr : wS.grownBy w (some g0)
  box : b17 = false → Six w qb f
  m0 : b20 = false → Mono w g0 vE wk pl
  m1 : b20 = true → Mono w g0 vE c.v17 pl
  r0 : b17 = false → OwV 42 w wS.heap.size wk L
  r1 : b17 = true → OwV 42 w wS.heap.size c.v17 (L ++ [u])
  s16 : b16 = true → b17 = false → w.cell? ⟨c.q16, 0, none⟩ = some u ∧ c.q16 < w.heap.size
section
variable {wS w w' : World} {g0 : Nat} {vE wk : Value} {pl : Nat → Int} {L : List Value} {u : Value} {qb : Nat} {f : M} {b16 b17 b20 : Bool} {c : G23}
theorem S23.below (h : S23 wS g0 vE wk pl L u qb f b16 b17 b20 c w) (hb : Below w.heap.size w w') : S23 wS g0 vE wk pl L u qb f b16 b17 b20 c w' where
  gr := grownBy_below h.gr hb
  box := fun e => (h.box e).below hb (h.box e).lt
  m0 := fun e => (h.m0 e).below hb (h.m0 e).lt
  m1 := fun e => (h.m1 e).below hb (h.m1 e).lt
  r0 := fun e => (h.r0 e).below hb (Nat.le_refl _)
  r1 := fun e => (h.r1 e).below hb (Nat.le_refl _)
  s16 := fun e1 e2 => ⟨(hb.cell (p := ⟨c.q16, 0, none⟩) (h.s16 e1 e2).2).trans (h.s16 e1 e2).1, Nat.lt_of_lt_of_le (h.s16 e1 e2).2 hb.size⟩
theorem S23.do16 (h : S23 wS g0 vE wk pl L u qb f b16 false false c w) : S23 wS g0 vE wk pl L u qb f true false false { c with q16 := w.heap.size } (w.alloc (.cells #[u] 42)) :=
  have h' := h.below ((Below.refl w.heap.size w).alloc (Nat.le_refl _) (.cells #[u] 42))
  { h' with s16 := fun _ _ => ⟨(Blk.new w 42 #[u]).cell 0, by simp⟩, m1 := fun e => (by cases e), r1 := fun e => (by cases e) }
theorem S23.do17 (h : S23 wS g0 vE wk pl L u qb f true false false c w) (hg : g0 < wS.heap.size) {g' cap N : Nat}
    (hown : OwV 42 w' wS.heap.size (.slice (some ⟨g', 0, none⟩) N cap) (L ++ [u])) (hgr : w.grownBy w' wk.ownBlock) : S23 wS g0 vE wk pl L u qb f true true false { c with v17 := .slice (some ⟨g', 0, none⟩) N cap } w' where
  gr := grownBy_grown h.gr hgr fun k hk e => by have := ((h.r0 rfl).lt k e).1; omega
  box := fun e => by cases e
  m0 := fun _ => (h.m0 rfl).grown hgr fun e => by have := ((h.r0 rfl).lt _ e.symm).1; omega
  m1 := fun e => by cases e
  r0 := fun e => by cases e
  r1 := fun _ => hown
  s16 := fun _ e => by cases e
theorem S23.do20 (h : S23 wS g0 vE wk pl L u qb f b16 true false c w) (hg : g0 < wS.heap.size) : S23 wS g0 vE wk pl L u qb f b16 true true c (w.setCell ⟨g0, 1, none⟩ c.v17) where
  gr := grownBy_set' h.gr
  box := fun e => by cases e
  m0 := fun e => by cases e
  m1 := fun _ => (h.m0 rfl).set1 _
  r0 := fun e => by cases e
  r1 := fun _ => (h.r1 rfl).keep fun g hg' => Below.heap_setCell w _ _ g (by have := ((h.r1 rfl).lt g hg').1; show g ≠ g0; omega)
  s16 := fun _ e => by cases e
end
/-! ### what the end of the search keeps -/
structure Kept (w0 : World) (ps : Met) (vs : List Value) (E : List M) (vE vW : Value) (w : World) : Prop where
  bel : Below w0.heap.size w0 w
  lt : w0.heap.size < w.heap.size
  e : OwM 31 w (w0.heap.size + 1) vE E
  wd : OwV 42 w (w0.heap.size + 1) vW vs
  ws : ∀ j, j < ps.length → OwI 2 w (w0.heap.size + 1) (gv vs j) (pm ps j).2
section
variable {n : Int} {w0 w w' : World} {ps : Met} {vs : List Value} {pl : Nat → Int} {E F : List M} {vE vF vW : Value}
theorem Kept.grown (h : Kept w0 ps vs E vE vW w) (hg : w.grownBy w' (some w0.heap.size)) : Kept w0 ps vs E vE vW w' where
  bel := grownBy_bel h.bel hg (Nat.le_refl _) h.bel.size
  lt := Nat.lt_of_lt_of_le h.lt hg.size
  e := h.e.grown hg fun g hv e => by injection e with e; have := (h.e.lt g hv).1; omega
  wd := h.wd.grown hg fun g hv e => by injection e with e; have := (h.wd.lt g hv).1; omega
  ws := fun j hj => (h.ws j hj).grown hg fun g hv e => by injection e with e; have := ((h.ws j hj).lt g hv).1; omega
theorem Kept.below (h : Kept w0 ps vs E vE vW w) (hb : Below w.heap.size w w') : Kept w0 ps vs E vE vW w' := h.grown (grownBy_below (World.grownBy.refl w _) hb)
theorem NSt.kept {gE N c : Nat} {v : Value} (h : NSt n w0 ps vs pl vF vW w) (hW : ∀ g, vW.ownBlock = some g → g ≠ gE) (hws : ∀ j, j < ps.length → ∀ g, (gv vs j).ownBlock = some g → g ≠ gE) (hgE : w0.heap.size ≤ gE)
    (hg : (w.setCell ⟨w0.heap.size, 0, none⟩ v).grownBy w' (some gE)) (ho : OwM 31 w' (w0.heap.size + 1) (.slice (some ⟨gE, 0, none⟩) N c) E) :
    Kept w0 ps vs E (.slice (some ⟨gE, 0, none⟩) N c) vW w' := by
  have hs : (w.setCell ⟨w0.heap.size, 0, none⟩ v).heap.size = w.heap.size := by simp [World.setCell]
  have far : ∀ g, w0.heap.size + 1 ≤ g → (w.setCell ⟨w0.heap.size, 0, none⟩ v).heap[g]? = w.heap[g]? := fun g hg => Below.heap_setCell w _ _ g (by show g ≠ w0.heap.size; omega)
  refine ⟨grownBy_bel (h.bel.setCell (p := ⟨w0.heap.size, 0, none⟩) (Nat.le_refl _) v) hg hgE (by rw [hs]; exact h.bel.size), Nat.lt_of_lt_of_le (by rw [hs]; exact h.mono.lt) hg.size, ho, ?_, fun j hj => ?_⟩
  · exact (h.wd.keep fun g hv => far g (h.wd.lt g hv).1).grown hg fun g hv e => by injection e with e; exact hW g hv e.symm
  · exact ((h.ws j hj).keep fun g hv => far g ((h.ws j hj).lt g hv).1).grown hg fun g hv e => by injection e with e; exact hws j hj g hv e.symm
end
end Go.Proofs.Ytknknljkmkfmoaa
