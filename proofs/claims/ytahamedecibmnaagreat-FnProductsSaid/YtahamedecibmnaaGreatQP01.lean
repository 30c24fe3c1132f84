/- Plain words and lemmas for maps of five points as values, blocks of memory and the ends of walks; no conditions. Contracts of the small functions on one map (in a range, is a map, copies, products, identities); no conditions beyond those that each theorem states. Contracts of copies, products and identities of maps; the maps are as each theorem states. Contracts: is a map idempotent; no conditions beyond those that each theorem states. Words for slices: what a slice reads as, rows that the call owns, and the append of one element; no conditions beyond those that each theorem states. Contracts of the kernel of a map; the maps are valid where the theorems say so. Contracts of maps made of lists and of texts; no conditions beyond those that each theorem states. A region that draws its order, walked once: if its last frame is one that no operation of it changes, every order ends in that frame; no conditions beyond those that each theorem states. How the world grows beside a block. -/
import Derived.Test.YtahamedecibmnaaGreatProg
import Derived.WalkKit
import Derived.Below
import Derived.Lib.Hide
import Derived.Deep.LoopGhost
import Derived.Deep.Draws
import Derived.Deep.QuietTactic
import Derived.BigQuiet
import Derived.KernelRfl
import Derived.IntWalk
import Derived.Laws.StructEq
import Derived.Deep.RegionHeld3
import Derived.OwnWalk
import Derived.Deep.AppendLies
import Derived.WalkSpells
import Derived.Orders
import Derived.RegionTactic
set_option linter.unusedSimpArgs false
set_option linter.unusedVariables false
namespace Go.Proofs.YtahamedecibmnaaGreat
open Go.RowKit
abbrev I (n : Int) : Value := .int .i64 n
structure M where
  p : Int
  t0 : Int
  t1 : Int
  t2 : Int
  t3 : Int
  t4 : Int
deriving DecidableEq
def M.at (m : M) : Nat → Int
  | 0 => m.t0 | 1 => m.t1 | 2 => m.t2 | 3 => m.t3 | 4 => m.t4 | _ => 0
def M.mk' (p : Int) (f : Nat → Int) : M := ⟨p, f 0, f 1, f 2, f 3, f 4⟩
abbrev mt (m : M) : Array Value := #[I m.t0, I m.t1, I m.t2, I m.t3, I m.t4]
abbrev mc (m : M) : Array Value := #[I m.p, I m.t0, I m.t1, I m.t2, I m.t3, I m.t4]
theorem five {P : Nat → Prop} (h0 : P 0) (h1 : P 1) (h2 : P 2) (h3 : P 3) (h4 : P 4) : ∀ k, k < 5 → P k := by
  intro k hk
  match k, hk with
  | 0, _ => exact h0
  | 1, _ => exact h1
  | 2, _ => exact h2
  | 3, _ => exact h3
  | 4, _ => exact h4
theorem at_mk' (p : Int) (f : Nat → Int) {k : Nat} (hk : k < 5) : (M.mk' p f).at k = f k :=
  five (P := fun k => (M.mk' p f).at k = f k) rfl rfl rfl rfl rfl k hk
theorem M.ext5 {a b : M} (hp : a.p = b.p) (h : ∀ k, k < 5 → a.at k = b.at k) : a = b := by
  obtain ⟨p, a0, a1, a2, a3, a4⟩ := a
  obtain ⟨q, b0, b1, b2, b3, b4⟩ := b
  have h0 := h 0 (by decide); have h1 := h 1 (by decide); have h2 := h 2 (by decide); have h3 := h 3 (by decide); have h4 := h 4 (by decide)
  simp only [M.at] at *
  subst hp h0 h1 h2 h3 h4
  rfl
theorem mk'_congr {p : Int} {f g : Nat → Int} (h : ∀ k, k < 5 → f k = g k) : M.mk' p f = M.mk' p g :=
  M.ext5 rfl fun k hk => by rw [at_mk' _ _ hk, at_mk' _ _ hk, h k hk]
theorem mk'_eta (m : M) : M.mk' m.p m.at = m := rfl
theorem mc_get (m : M) {k : Nat} (hk : k < 5) : (mc m)[1 + k]? = some (I (m.at k)) :=
  five (P := fun k => (mc m)[1 + k]? = some (I (m.at k))) rfl rfl rfl rfl rfl k hk
theorem mc_set (p : Int) (f : Nat → Int) (v : Int) {k : Nat} (hk : k < 5) :
    (mc (M.mk' p f)).setIfInBounds (1 + k) (I v) = mc (M.mk' p fun j => if j = k then v else f j) :=
  five (P := fun k => (mc (M.mk' p f)).setIfInBounds (1 + k) (I v) = mc (M.mk' p fun j => if j = k then v else f j)) rfl rfl rfl rfl rfl k hk
/-! ### blocks -/
def Blk (w : World) (g : Nat) (t : TypeId) (cs : Array Value) : Prop := w.heap[g]? = some (.cells cs t (0, 0))
section
variable {w w' : World} {g : Nat} {t : TypeId} {cs : Array Value}
theorem Blk.lt (h : Blk w g t cs) : g < w.heap.size := by
  rcases Nat.lt_or_ge g w.heap.size with hlt | hge
  · exact hlt
  · unfold Blk at h; rw [Array.getElem?_eq_none hge] at h; cases h
theorem Blk.cell (h : Blk w g t cs) (i : Nat) : w.cell? ⟨g, i, none⟩ = cs[i]? := cell_of_row w g i cs t (0, 0) h
theorem Blk.frozen (h : Blk w g t cs) (i : Nat) : w.frozen? ⟨g, i, none⟩ = false := by
  unfold Blk at h
  simp [World.frozen?, h]
theorem Blk.new (w : World) (t : TypeId) (cs : Array Value) : Blk (w.alloc (.cells cs t)) w.heap.size t cs := heap_alloc_new w _
theorem Blk.new' (w : World) (t : TypeId) (cs : Array Value) {n : Nat} (h : n = w.heap.size) : Blk (w.alloc (.cells cs t)) n t cs := h ▸ Blk.new w t cs
theorem Blk.drew (h : Blk w g t cs) : Blk w.drew g t cs := h
theorem Blk.drewN (h : Blk w g t cs) (n : Nat) : Blk (w.drewN n) g t cs := h
theorem Blk.alloc (h : Blk w g t cs) (o : Obj) : Blk (w.alloc o) g t cs := (Below.heap_alloc w o g h.lt).trans h
theorem Blk.set_ (h : Blk w g t cs) (i : Nat) (u : Value) : Blk (w.setCell ⟨g, i, none⟩ u) g t (cs.setIfInBounds i u) := by
  unfold Blk at h ⊢
  simp [World.setCell, Array.getElem?_modify, h]
theorem Blk.far (h : Blk w g t cs) {p : Addr} (hp : g ≠ p.block) (u : Value) : Blk (w.setCell p u) g t cs := (Below.heap_setCell w p u g hp).trans h
theorem Blk.below {B : Nat} (h : Blk w g t cs) (hb : Below B w w') (hg : g < B) : Blk w' g t cs := (hb.block g hg).trans h
theorem Blk.grown {row : Option Nat} (h : Blk w g t cs) (hb : w.grownBy w' row) (hg : some g ≠ row) : Blk w' g t cs := (hb.block g h.lt hg).trans h
theorem Blk.cast {cs' : Array Value} (h : Blk w g t cs) (e : cs = cs') : Blk w g t cs' := e ▸ h
theorem Blk.at_ {m : M} (h : Blk w g t (mc m)) {k : Nat} (hk : k < 5) : w.cell? ⟨g, 1 + k, none⟩ = some (I (m.at k)) := (h.cell _).trans (mc_get m hk)
end
theorem _root_.Go.RowKit.Below.drewN {B : Nat} {a w : World} (h : Below B a w) (n : Nat) : Below B a (w.drewN n) := ⟨h.os, h.tape, h.output, h.size, h.block⟩
theorem Blk.six {w : World} {g : Nat} {t : TypeId} {m : M} (h : Blk w g t (mc m)) : w.cell? ⟨g, 0, none⟩ = some (I m.p) ∧ w.cell? ⟨g, 1, none⟩ = some (I m.t0) ∧ w.cell? ⟨g, 2, none⟩ = some (I m.t1) ∧ w.cell? ⟨g, 3, none⟩ = some (I m.t2) ∧ w.cell? ⟨g, 4, none⟩ = some (I m.t3) ∧ w.cell? ⟨g, 5, none⟩ = some (I m.t4) :=
  ⟨h.cell 0, h.cell 1, h.cell 2, h.cell 3, h.cell 4, h.cell 5⟩
abbrev Six (w : World) (g : Nat) (m : M) : Prop := w.cell? ⟨g, 0, none⟩ = some (I m.p) ∧ w.cell? ⟨g, 1, none⟩ = some (I m.t0) ∧ w.cell? ⟨g, 2, none⟩ = some (I m.t1) ∧ w.cell? ⟨g, 3, none⟩ = some (I m.t2) ∧ w.cell? ⟨g, 4, none⟩ = some (I m.t3) ∧ w.cell? ⟨g, 5, none⟩ = some (I m.t4)
theorem Six.below {w w' : World} {g n : Nat} {m : M} (h : Six w g m) (hb : Below n w w') (hg : g < n) : Six w' g m :=
  ⟨(hb.cell (p := ⟨g, 0, none⟩) hg).trans h.1, (hb.cell (p := ⟨g, 1, none⟩) hg).trans h.2.1, (hb.cell (p := ⟨g, 2, none⟩) hg).trans h.2.2.1, (hb.cell (p := ⟨g, 3, none⟩) hg).trans h.2.2.2.1, (hb.cell (p := ⟨g, 4, none⟩) hg).trans h.2.2.2.2.1, (hb.cell (p := ⟨g, 5, none⟩) hg).trans h.2.2.2.2.2⟩
theorem Six.grown {w w' : World} {g : Nat} {m : M} {row : Option Nat} (h : Six w g m) (hb : w.grownBy w' row) (hg : some g ≠ row) : Six w' g m :=
  have k : ∀ o, w'.cell? ⟨g, o, none⟩ = w.cell? ⟨g, o, none⟩ := fun o => World.cell?_of_block (w := w) (a := ⟨g, o, none⟩) (hb.block g (World.block_lt_of_cell? w ⟨g, 0, none⟩ h.1) hg)
  ⟨(k 0).trans h.1, (k 1).trans h.2.1, (k 2).trans h.2.2.1, (k 3).trans h.2.2.2.1, (k 4).trans h.2.2.2.2.1, (k 5).trans h.2.2.2.2.2⟩
theorem Six.alloc {w : World} {g : Nat} {m : M} (h : Six w g m) (o : Obj) : Six (w.alloc o) g m :=
  have hg : g < w.heap.size := World.block_lt_of_cell? w ⟨g, 0, none⟩ h.1
  have k : ∀ q, (w.alloc o).cell? ⟨g, q, none⟩ = w.cell? ⟨g, q, none⟩ := fun q => World.cell?_of_block (w := w) (a := ⟨g, q, none⟩) (Below.heap_alloc w o g hg)
  ⟨(k 0).trans h.1, (k 1).trans h.2.1, (k 2).trans h.2.2.1, (k 3).trans h.2.2.2.1, (k 4).trans h.2.2.2.2.1, (k 5).trans h.2.2.2.2.2⟩
theorem Six.far {w : World} {g : Nat} {m : M} (h : Six w g m) {p : Addr} (hp : g ≠ p.block) (u : Value) : Six (w.setCell p u) g m :=
  have k : ∀ q, (w.setCell p u).cell? ⟨g, q, none⟩ = w.cell? ⟨g, q, none⟩ := fun q => World.cell?_of_block (w := w) (a := ⟨g, q, none⟩) (Below.heap_setCell w p u g hp)
  ⟨(k 0).trans h.1, (k 1).trans h.2.1, (k 2).trans h.2.2.1, (k 3).trans h.2.2.2.1, (k 4).trans h.2.2.2.2.1, (k 5).trans h.2.2.2.2.2⟩
theorem Six.lt {w : World} {g : Nat} {m : M} (h : Six w g m) : g < w.heap.size := World.block_lt_of_cell? w ⟨g, 0, none⟩ h.1
theorem Blk.five {w : World} {g : Nat} {t : TypeId} {m : M} (h : Blk w g t (mt m)) : w.cell? ⟨g, 0, none⟩ = some (I m.t0) ∧ w.cell? ⟨g, 1, none⟩ = some (I m.t1) ∧ w.cell? ⟨g, 2, none⟩ = some (I m.t2) ∧ w.cell? ⟨g, 3, none⟩ = some (I m.t3) ∧ w.cell? ⟨g, 4, none⟩ = some (I m.t4) :=
  ⟨h.cell 0, h.cell 1, h.cell 2, h.cell 3, h.cell 4⟩
theorem Blk.fr6 {w : World} {g : Nat} {t : TypeId} {cs : Array Value} (h : Blk w g t cs) : w.frozen? ⟨g, 0, none⟩ = false ∧ w.frozen? ⟨g, 1, none⟩ = false ∧ w.frozen? ⟨g, 2, none⟩ = false ∧ w.frozen? ⟨g, 3, none⟩ = false ∧ w.frozen? ⟨g, 4, none⟩ = false ∧ w.frozen? ⟨g, 5, none⟩ = false :=
  ⟨h.frozen 0, h.frozen 1, h.frozen 2, h.frozen 3, h.frozen 4, h.frozen 5⟩
abbrev st6 (w : World) (q : Nat) (m : M) : World := (((((w.setCell ⟨q, 0, none⟩ (I m.p)).setCell ⟨q, 1, none⟩ (I m.t0)).setCell ⟨q, 2, none⟩ (I m.t1)).setCell ⟨q, 3, none⟩ (I m.t2)).setCell ⟨q, 4, none⟩ (I m.t3)).setCell ⟨q, 5, none⟩ (I m.t4)
theorem Blk.st6 {w : World} {q : Nat} {t : TypeId} {m0 : M} (h : Blk w q t (mc m0)) (m : M) : Blk (st6 w q m) q t (mc m) :=
  ((((((h.set_ 0 (I m.p)).set_ 1 (I m.t0)).set_ 2 (I m.t1)).set_ 3 (I m.t2)).set_ 4 (I m.t3)).set_ 5 (I m.t4)).cast rfl
theorem Six.st6 {w : World} {g q : Nat} {m0 : M} (h : Six w g m0) (hq : g ≠ q) (m : M) : Six (st6 w q m) g m0 :=
  (((((h.far (p := ⟨q, 0, none⟩) hq _).far (p := ⟨q, 1, none⟩) hq _).far (p := ⟨q, 2, none⟩) hq _).far (p := ⟨q, 3, none⟩) hq _).far (p := ⟨q, 4, none⟩) hq _).far (p := ⟨q, 5, none⟩) hq _
theorem below_st6 {B q : Nat} {a w : World} (h : Below B a w) (hq : B ≤ q) (m : M) : Below B a (st6 w q m) :=
  (((((h.setCell (p := ⟨q, 0, none⟩) hq _).setCell (p := ⟨q, 1, none⟩) hq _).setCell (p := ⟨q, 2, none⟩) hq _).setCell (p := ⟨q, 3, none⟩) hq _).setCell (p := ⟨q, 4, none⟩) hq _).setCell (p := ⟨q, 5, none⟩) hq _
/-! ### ends of walks -/
theorem ret_bool {a b : Bool} (h : a = b) : Ending.returned (.bool a) = .returned (.bool b) := by rw [h]
theorem ret_int {k : IntKind} {a b : Int} (h : a = b) : Ending.returned (.int k a) = .returned (.int k b) := by rw [h]
theorem Blk.after {w w1 : World} {t : TypeId} {cs : Array Value} {n : Nat} (hb : Below n (w.alloc (.cells cs t)) w1) (hn : w.heap.size < n) : Blk w1 w.heap.size t cs := (Blk.new w t cs).below hb hn
def M0 : M := ⟨0, 0, 0, 0, 0, 0⟩
def part (p : Int) (new old : Nat → Int) (k : Nat) : M := M.mk' p fun j => if j < k then new j else old j
theorem part_zero (p : Int) (new old : Nat → Int) : part p new old 0 = M.mk' p old := mk'_congr fun j _ => by simp
theorem part_at (p : Int) (new old : Nat → Int) {k j : Nat} (hj : j < 5) : (part p new old k).at j = if j < k then new j else old j := at_mk' _ _ hj
theorem part_fun {new old : Nat → Int} {k : Nat} {v : Int} (hv : v = new k) (j : Nat) : (if j = k then v else if j < k then new j else old j) = if j < k + 1 then new j else old j := by
  by_cases e : j = k
  · subst e; simp [hv]
  · rw [if_neg e]; by_cases h : j < k
    · rw [if_pos h, if_pos (by omega)]
    · rw [if_neg h, if_neg (by omega)]
theorem part_step (p : Int) (new old : Nat → Int) {k : Nat} (hk : k < 5) {v : Int} (hv : v = new k) :
    (mc (part p new old k)).setIfInBounds (1 + k) (I v) = mc (part p new old (k + 1)) :=
  (mc_set _ _ _ hk).trans (congrArg (fun f => mc (M.mk' p f)) (funext fun j => part_fun hv j))
/-! ### what is a map -/
def inR (n l h : Int) : Bool := decide (l ≤ n) && decide (n ≤ h)
theorem inR_true {n l h : Int} : inR n l h = true ↔ l ≤ n ∧ n ≤ h := by simp [inR]
theorem inR_false {n l h : Int} : inR n l h = false ↔ ¬ (l ≤ n ∧ n ≤ h) := by rw [← inR_true]; simp
def good (m : M) (k : Nat) : Bool := if (k : Int) < m.p then inR (m.at k) 0 (m.p - 1) else decide (m.at k = 0)
def isMap (m : M) : Bool := inR m.p 1 5 && (List.range 5).all (good m)
theorem isMap_false {m : M} {k : Nat} (hk : k < 5) (h : good m k = false) : isMap m = false := by
  simp only [isMap, Bool.and_eq_false_iff]; right
  rw [List.all_eq_false]; exact ⟨k, by simpa using hk, by simpa using h⟩
theorem isMap_true {m : M} (hp : inR m.p 1 5 = true) (h : ∀ j, j < 5 → good m j = true) : isMap m = true := by
  simp only [isMap, hp, Bool.true_and, List.all_eq_true]; intro j hj; exact h j (by simpa using hj)
theorem isMap_p {m : M} (hp : inR m.p 1 5 = false) : isMap m = false := by simp [isMap, hp]
theorem good_step {m : M} {k : Nat} (hg : ∀ j, j < k → good m j = true) (h : good m k = true) : ∀ j, j < k + 1 → good m j = true := by
  intro j hj; by_cases e : j = k
  · subst e; exact h
  · exact hg j (by omega)
structure Valid (m : M) : Prop where
  p1 : 1 ≤ m.p
  p5 : m.p ≤ 5
  lo : ∀ k : Nat, k < 5 → (k : Int) < m.p → 0 ≤ m.at k
  hi : ∀ k : Nat, k < 5 → (k : Int) < m.p → m.at k < m.p
  out : ∀ k : Nat, k < 5 → m.p ≤ (k : Int) → m.at k = 0
theorem isMap_iff (m : M) : isMap m = true ↔ Valid m := by
  constructor
  · intro h
    simp only [isMap, Bool.and_eq_true, List.all_eq_true, List.mem_range, inR_true] at h
    obtain ⟨⟨h1, h2⟩, h3⟩ := h
    refine ⟨h1, h2, ?_, ?_, ?_⟩
    · intro k hk hp; have := h3 k hk; rw [good, if_pos hp, inR_true] at this; omega
    · intro k hk hp; have := h3 k hk; rw [good, if_pos hp, inR_true] at this; omega
    · intro k hk hp; have := h3 k hk; rw [good, if_neg (by omega)] at this; simpa using this
  · intro h
    simp only [isMap, Bool.and_eq_true, List.all_eq_true, List.mem_range, inR_true]
    refine ⟨⟨h.p1, h.p5⟩, fun k hk => ?_⟩
    unfold good
    split
    · rename_i hp; rw [inR_true]; have := h.lo k hk hp; have := h.hi k hk hp; omega
    · rename_i hp; simpa using h.out k hk (by omega)
instance (m : M) : Decidable (Valid m) := decidable_of_iff _ (isMap_iff m)
theorem Valid.nn {m : M} (h : Valid m) {k : Nat} (hk : k < 5) : 0 ≤ m.at k ∧ m.at k < 5 := by
  by_cases hp : (k : Int) < m.p
  · have := h.lo k hk hp; have := h.hi k hk hp; have := h.p5; omega
  · have := h.out k hk (by omega); omega
def cInv (b : Bool) : Int := if b then 0 else 1
/-! ### products -/
def mul (f g : M) : M := M.mk' f.p fun k => if (k : Int) < f.p then g.at (f.at k).toNat else 0
def one (n : Int) : M := M.mk' n fun k => if (k : Int) < n then (k : Int) else 0
theorem at_mul (f g : M) {k : Nat} (hk : k < 5) : (mul f g).at k = if (k : Int) < f.p then g.at (f.at k).toNat else 0 := at_mk' _ _ hk
theorem at_one (n : Int) {k : Nat} (hk : k < 5) : (one n).at k = if (k : Int) < n then (k : Int) else 0 := at_mk' _ _ hk
theorem p_mul (f g : M) : (mul f g).p = f.p := rfl
theorem p_one (n : Int) : (one n).p = n := rfl
theorem Valid.mul {f g : M} (hf : Valid f) (hg : Valid g) (e : f.p = g.p) : Valid (mul f g) := by
  refine ⟨hf.p1, hf.p5, ?_, ?_, ?_⟩
  · intro k hk hp
    have h1 := hf.lo k hk hp; have h2 := hf.hi k hk hp; have h3 := hf.p5
    rw [p_mul] at hp
    rw [at_mul _ _ hk, if_pos hp]
    exact hg.lo _ (by omega) (by omega)
  · intro k hk hp
    have h1 := hf.lo k hk hp; have h2 := hf.hi k hk hp; have h3 := hf.p5
    rw [p_mul] at hp ⊢
    rw [at_mul _ _ hk, if_pos hp, e]
    exact hg.hi _ (by omega) (by omega)
  · intro k hk hp
    rw [p_mul] at hp
    rw [at_mul _ _ hk, if_neg (by omega)]
theorem Valid.one {n : Int} (h1 : 1 ≤ n) (h5 : n ≤ 5) : Valid (one n) := by
  refine ⟨h1, h5, ?_, ?_, ?_⟩
  · intro k hk hp; rw [p_one] at hp; rw [at_one _ hk, if_pos hp]; omega
  · intro k hk hp; rw [p_one] at hp ⊢; rw [at_one _ hk, if_pos hp]; omega
  · intro k hk hp; rw [p_one] at hp; rw [at_one _ hk, if_neg (by omega)]
/-! ### images -/
def imgs (f : M) (k : Nat) : List Int := (List.range k).map f.at
theorem imgs_length (f : M) (k : Nat) : (imgs f k).length = k := by simp [imgs]
theorem imgs_succ (f : M) (k : Nat) : imgs f (k + 1) = imgs f k ++ [f.at k] := by simp [imgs, List.range_succ]
end Go.Proofs.YtahamedecibmnaaGreat

namespace Go.Proofs.YtahamedecibmnaaGreat
open Go.RowKit
set_option maxRecDepth 100000
theorem within_any (n l h : Int) (w : World) :
    Calls Tryz.prog 38 #[.int .i64 n, .int .i64 l, .int .i64 h] w fun e w' => e = .returned (.bool (inR n l h)) ∧ w = w' := by
  unfold inR
  by_cases h1 : l ≤ n
  · by_cases h2 : n ≤ h
    · go_enter Tryz.func38, Tryz.ntmps38
      go_wp2
      go_ret
      exact ⟨by simp [*], rfl⟩
    · go_enter Tryz.func38, Tryz.ntmps38
      go_wp2
      go_ret
      exact ⟨by simp [*], rfl⟩
  · go_enter Tryz.func38, Tryz.ntmps38
    go_wp2
    go_ret
    exact ⟨by simp; omega, rfl⟩
theorem l01In_any (n l h : Int) (w : World) :
    Calls Tryz.prog 58 #[.int .i64 n, .int .i64 l, .int .i64 h] w fun e w' => e = .returned (.bool (inR n l h)) ∧ w = w' := by
  unfold inR
  by_cases h1 : l ≤ n
  · by_cases h2 : n ≤ h
    · go_enter Tryz.func58, Tryz.ntmps58
      go_wp2
      go_ret
      exact ⟨by simp [*], rfl⟩
    · go_enter Tryz.func58, Tryz.ntmps58
      go_wp2
      go_ret
      exact ⟨by simp [*], rfl⟩
  · go_enter Tryz.func58, Tryz.ntmps58
    go_wp2
    go_ret
    exact ⟨by simp; omega, rfl⟩
theorem idx0 (m : M) (w : World) : (Instr.index 24 (.agg (mt m)) (.int .i64 0)).run Tryz.prog w = .ok (I m.t0) w := by kernel_rfl
theorem idx1 (m : M) (w : World) : (Instr.index 24 (.agg (mt m)) (.int .i64 1)).run Tryz.prog w = .ok (I m.t1) w := by kernel_rfl
theorem idx2 (m : M) (w : World) : (Instr.index 24 (.agg (mt m)) (.int .i64 2)).run Tryz.prog w = .ok (I m.t2) w := by kernel_rfl
theorem idx3 (m : M) (w : World) : (Instr.index 24 (.agg (mt m)) (.int .i64 3)).run Tryz.prog w = .ok (I m.t3) w := by kernel_rfl
theorem idx4 (m : M) (w : World) : (Instr.index 24 (.agg (mt m)) (.int .i64 4)).run Tryz.prog w = .ok (I m.t4) w := by kernel_rfl
theorem idx_any (m : M) (k : Nat) (hk : k < 5) (w : World) : (Instr.index 24 (.agg (mt m)) (.int .i64 (k : Nat))).run Tryz.prog w = .ok (I (m.at k)) w :=
  five (P := fun k => (Instr.index 24 (.agg (mt m)) (.int .i64 (k : Nat))).run Tryz.prog w = .ok (I (m.at k)) w) (idx0 m w) (idx1 m w) (idx2 m w) (idx3 m w) (idx4 m w) k hk
theorem isMap_any (m : M) (w : World) :
    Calls Tryz.prog 8 #[.agg (mc m)] w fun e w' => e = .returned (.bool (isMap m)) ∧ Below w.heap.size w w' := by
  cases hp : inR m.p 1 5
  · have Hfin : Hid (isMap m = false) := isMap_p hp
    go_enter Tryz.func8, Tryz.ntmps8
    go_wp2_with (go_at_call 38; refine (within_any _ _ _ _).mono ?_; rintro e w' ⟨rfl, rfl⟩)
    go_ret
    exact ⟨ret_bool Hfin.out.symm, (Below.refl _ _).alloc (Nat.le_refl _) _⟩
  · have b := hp
    rw [inR_true] at b
    obtain ⟨b1, b2⟩ := b
    have Hp := Lib.hid hp
    go_enter Tryz.func8, Tryz.ntmps8
    go_wp2_with (go_at_call 38; refine (within_any _ _ _ _).mono ?_; rintro e w' ⟨rfl, rfl⟩)
    clear hp
    go_loop [11] (fun i => ∃ k : Nat, k ≤ 5 ∧ i = .int .i64 k ∧ Hid (∀ j, j < k → good m j = true)) (fun i => 5 - (intOf i).toNat)
    case atStart => exact ⟨0, by omega, rfl, by intro j hj; omega⟩
    case round =>
      obtain ⟨k, hk, rfl, hg⟩ := hrel
      by_cases hlt : k < 5
      · have hix := idx_any m k hlt
        by_cases hkp : (k : Int) < m.p
        · cases hin : inR (m.at k) 0 (m.p - 1)
          · have Hb : Hid (good m k = false) := by show _ = _; simp [good, hkp, hin]
            go_wp2_with (go_at_call 38; refine (within_any _ _ _ _).mono ?_; rintro e w' ⟨rfl, rfl⟩)
            go_ret
            exact ⟨ret_bool (isMap_false hlt Hb.out).symm, (Below.refl _ _).alloc (Nat.le_refl _) _⟩
          · have Hb : Hid (good m k = true) := by show _ = _; simp [good, hkp, hin]
            go_wp2_with (go_at_call 38; refine (within_any _ _ _ _).mono ?_; rintro e w' ⟨rfl, rfl⟩)
            go_round
            case rel => exact ⟨k + 1, by omega, by go_num, good_step hg.out Hb.out⟩
            case measure => simp [intOf]; omega
        · by_cases hz : m.at k = 0
          · have Hb : Hid (good m k = true) := by show _ = _; simp [good, hkp, hz]
            go_wp2_with (go_at_call 38; refine (within_any _ _ _ _).mono ?_; rintro e w' ⟨rfl, rfl⟩)
            go_round
            case rel => exact ⟨k + 1, by omega, by go_num, good_step hg.out Hb.out⟩
            case measure => simp [intOf]; omega
          · have Hb : Hid (good m k = false) := by show _ = _; simp [good, hkp, hz]
            go_wp2_with (go_at_call 38; refine (within_any _ _ _ _).mono ?_; rintro e w' ⟨rfl, rfl⟩)
            go_ret
            exact ⟨ret_bool (isMap_false hlt Hb.out).symm, (Below.refl _ _).alloc (Nat.le_refl _) _⟩
      · obtain rfl : k = 5 := by omega
        have Hb : Hid (isMap m = true) := isMap_true Hp.out hg.out
        go_wp2
        go_ret
        exact ⟨ret_bool Hb.out.symm, (Below.refl _ _).alloc (Nat.le_refl _) _⟩
theorem l01Is_any (m : M) (w : World) :
    Calls Tryz.prog 39 #[.agg (mc m)] w fun e w' => e = .returned (.bool (isMap m)) ∧ Below w.heap.size w w' := by
  cases hp : inR m.p 1 5
  · have Hfin : Hid (isMap m = false) := isMap_p hp
    go_enter Tryz.func39, Tryz.ntmps39
    go_wp2_with (go_at_call 58; refine (l01In_any _ _ _ _).mono ?_; rintro e w' ⟨rfl, rfl⟩)
    go_ret
    exact ⟨ret_bool Hfin.out.symm, (Below.refl _ _).alloc (Nat.le_refl _) _⟩
  · have b := hp
    rw [inR_true] at b
    obtain ⟨b1, b2⟩ := b
    have Hp := Lib.hid hp
    go_enter Tryz.func39, Tryz.ntmps39
    go_wp2_with (go_at_call 58; refine (l01In_any _ _ _ _).mono ?_; rintro e w' ⟨rfl, rfl⟩)
    clear hp
    go_loopw [3] (fun i wr => ∃ k : Nat, k ≤ 5 ∧ i = .int .i64 k ∧ Hid (∀ j, j < k → good m j = true) ∧ Blk wr w.heap.size 26 (mc m) ∧ Below w.heap.size w wr) (fun i _ => 5 - (intOf i).toNat)
    case atStart => exact ⟨0, by omega, rfl, by intro j hj; omega, Blk.new _ _ _, (Below.refl _ _).alloc (Nat.le_refl _) _⟩
    case round =>
      obtain ⟨k, hk, rfl, hg, hB, hbel⟩ := hrel
      by_cases hlt : k < 5
      · have hwr : IntKind.i64.wrap (m.p - 1) = m.p - 1 := IntWalk.i64_in _ (by omega)
        have c0 : wr.cell? ⟨w.heap.size, 0, none⟩ = some (I m.p) := hB.cell 0
        have c1 := hB.at_ hlt
        by_cases hkp : (k : Int) < m.p
        · have hkd : decide ((k : Int) < m.p) = true := by simpa using hkp
          have hke : decide (m.p ≤ (k : Int)) = false := by simpa using hkp
          cases hin : inR (m.at k) 0 (m.p - 1)
          · have Hb : Hid (good m k = false) := by show _ = _; simp [good, hkp, hin]
            go_wp2_with fail
            go_quiet ((go_at_call 58; exact Calls.quiet_of_same ((l01In_any _ _ _ _).mono fun _ _ h => ⟨h.1, h.2.symm⟩)))
            go_wp2
            go_ret
            exact ⟨ret_bool (isMap_false hlt Hb.out).symm, hbel.drewN _⟩
          · have Hb : Hid (good m k = true) := by show _ = _; simp [good, hkp, hin]
            go_wp2_with fail
            go_quiet ((go_at_call 58; exact Calls.quiet_of_same ((l01In_any _ _ _ _).mono fun _ _ h => ⟨h.1, h.2.symm⟩)))
            go_wp2
            go_roundw
            case rel => exact ⟨k + 1, by omega, by go_num, good_step hg.out Hb.out, hB.drewN _, hbel.drewN _⟩
            case measure => simp [intOf]; omega
        · have hkd : decide ((k : Int) < m.p) = false := by simpa using hkp
          have hke : decide (m.p ≤ (k : Int)) = true := by simpa using hkp
          by_cases hz : m.at k = 0
          · have hz' : (m.at k != 0) = false := by simpa using hz
            have Hb : Hid (good m k = true) := by show _ = _; simp [good, hkp, hz]
            go_wp2_with fail
            go_quiet ((go_at_call 58; exact Calls.quiet_of_same ((l01In_any _ _ _ _).mono fun _ _ h => ⟨h.1, h.2.symm⟩)))
            go_wp2
            go_roundw
            case rel => exact ⟨k + 1, by omega, by go_num, good_step hg.out Hb.out, hB.drewN _, hbel.drewN _⟩
            case measure => simp [intOf]; omega
          · have hz' : (m.at k != 0) = true := by simpa using hz
            have Hb : Hid (good m k = false) := by show _ = _; simp [good, hkp, hz]
            go_wp2_with fail
            go_quiet ((go_at_call 58; exact Calls.quiet_of_same ((l01In_any _ _ _ _).mono fun _ _ h => ⟨h.1, h.2.symm⟩)))
            go_wp2
            go_ret
            exact ⟨ret_bool (isMap_false hlt Hb.out).symm, hbel.drewN _⟩
      · obtain rfl : k = 5 := by omega
        have Hb : Hid (isMap m = true) := isMap_true Hp.out hg.out
        go_wp2
        go_ret
        exact ⟨ret_bool Hb.out.symm, hbel⟩
end Go.Proofs.YtahamedecibmnaaGreat

namespace Go.Proofs.YtahamedecibmnaaGreat
open Go.RowKit
set_option maxRecDepth 100000
theorem times_fin {f g : M} {k : Nat} (hf : Valid f) (hk : (k : Int) ≤ f.p) (h : ¬ (k : Int) < f.p) : part f.p (fun j => g.at (f.at j).toNat) f.at k = mul f g := by
  refine mk'_congr fun j hj => ?_
  by_cases hj' : j < k
  · rw [if_pos hj', if_pos (by omega)]
  · rw [if_neg hj', if_neg (by omega)]; exact hf.out j hj (by omega)
theorem times_any (f g : M) (w : World) (hf : Valid f) :
    Calls Tryz.prog 35 #[.agg (mc f), .agg (mc g)] w fun e w' => e = .returned (.agg (mc (mul f g))) ∧ Below w.heap.size w w' := by
  have hp1 := hf.p1
  have hp5 := hf.p5
  go_enter Tryz.func35, Tryz.ntmps35
  go_wp2
  go_loopw [5, 8] (fun _ i wr => ∃ k : Nat, (k : Int) ≤ f.p ∧ i = .int .i64 k ∧ Blk wr w.heap.size 26 (mc (part f.p (fun j => g.at (f.at j).toNat) f.at k)) ∧ Blk wr (w.heap.size+1) 26 (mc g) ∧ Blk wr (w.heap.size+1+1) 26 (mc M0) ∧ Below w.heap.size w wr)
    (fun _ i _ => 5 - (intOf i).toNat)
  case atStart =>
    refine ⟨0, by omega, rfl, ?_, ?_, ?_, ?_⟩
    · rw [part_zero]; exact ((Blk.new w _ _).alloc _).alloc _
    · exact (Blk.new' _ _ _ (by simp)).alloc _
    · exact Blk.new' _ _ _ (by simp)
    · exact (((Below.refl _ _).alloc (Nat.le_refl _) _).alloc (by simp) _).alloc (by simp; omega) _
  case round =>
    obtain ⟨k, hk, rfl, hB1, hB2, hB3, hbel⟩ := hrel
    by_cases hlt : (k : Int) < f.p
    · have hk5 : k < 5 := by omega
      have b2 := hf.lo k hk5 hlt
      have b3 := hf.hi k hk5 hlt
      have c1 := hB1.at_ hk5
      rw [part_at _ _ _ hk5, if_neg (by omega)] at c1
      have c2 := hB2.at_ (k := (f.at k).toNat) (by omega)
      have z1 : wr.frozen? ⟨w.heap.size, 1 + k, none⟩ = false := hB1.frozen _
      have b4 : f.at k < 5 := by omega
      go_wp2
      go_roundw
      case rel => exact ⟨k + 1, by omega, by go_num, (hB1.set_ _ _).cast (part_step _ _ _ hk5 rfl), hB2.far (by simp) _, hB3.far (by simp <;> omega) _, hbel.setCell (by simp) _⟩
      case measure => simp [intOf]; omega
    · have hfin : part f.p (fun j => g.at (f.at j).toNat) f.at k = mul f g := times_fin hf hk hlt
      rw [hfin] at hB1
      clear hfin
      obtain ⟨m, rfl⟩ : ∃ m, m = mul f g := ⟨_, rfl⟩
      obtain ⟨d0, d1, d2, d3, d4, d5⟩ := hB1.six
      obtain ⟨e0, e1, e2, e3, e4, e5⟩ := hB3.six
      obtain ⟨z0, z1, z2, z3, z4, z5⟩ := hB3.fr6
      go_wp2
      refine bodyPost_ret (v := .agg (mc (mul f g))) ?_ rfl ⟨rfl, by (repeat (first | with_reducible assumption | with_reducible exact Below.refl _ _ | with_reducible refine Below.setCell ?_ (by first | omega | (simp <;> omega)) _ | with_reducible refine Below.alloc ?_ (by first | omega | (simp <;> omega)) _ | with_reducible refine Below.drew ?_ | with_reducible refine Below.drewN ?_ _))⟩
      simp [results, Tryz.results35, go_sem, *]
theorem l01Times_fin {f g : M} {k : Nat} (hk : (k : Int) ≤ f.p) (h : ¬ (k : Int) < f.p) : part f.p (fun j => g.at (f.at j).toNat) (fun _ => 0) k = mul f g := by
  refine mk'_congr fun j _ => ?_
  by_cases hj' : j < k
  · rw [if_pos hj', if_pos (by omega)]
  · rw [if_neg hj', if_neg (by omega)]
theorem l01Times_any (f g : M) (w : World) (hf : Valid f) :
    Calls Tryz.prog 37 #[.agg (mc f), .agg (mc g)] w fun e w' => e = .returned (.agg (mc (mul f g))) ∧ Below w.heap.size w w' := by
  have hp1 := hf.p1
  have hp5 := hf.p5
  go_enter Tryz.func37, Tryz.ntmps37
  go_wp2
  go_loopw [6] (fun i wr => ∃ k : Nat, (k : Int) ≤ f.p ∧ i = .int .i64 k ∧ Blk wr w.heap.size 26 (mc f) ∧ Blk wr (w.heap.size+1) 26 (mc g) ∧ Blk wr (w.heap.size+1+1) 26 (mc M0) ∧ Blk wr (w.heap.size+1+1+1) 26 (mc (part f.p (fun j => g.at (f.at j).toNat) (fun _ => 0) k)) ∧ Below w.heap.size w wr)
    (fun i _ => 5 - (intOf i).toNat)
  case atStart =>
    refine ⟨0, by omega, rfl, ?_, ?_, ?_, ?_, by (repeat (first | with_reducible assumption | with_reducible exact Below.refl _ _ | with_reducible refine Below.setCell ?_ (by first | omega | (simp <;> omega)) _ | with_reducible refine Below.alloc ?_ (by first | omega | (simp <;> omega)) _ | with_reducible refine Below.drew ?_ | with_reducible refine Below.drewN ?_ _))⟩
    · exact (((Blk.new w _ _).alloc _).alloc _).alloc _
    · exact ((Blk.new' _ _ _ (by simp)).alloc _).alloc _
    · exact (Blk.new' _ _ _ (by simp)).alloc _
    · rw [part_zero]; exact Blk.new' _ _ _ (by simp)
  case round =>
    obtain ⟨k, hk, rfl, hB1, hB2, hB3, hB4, hbel⟩ := hrel
    have c0 : wr.cell? ⟨w.heap.size, 0, none⟩ = some (I f.p) := hB1.cell 0
    by_cases hlt : (k : Int) < f.p
    · have hk5 : k < 5 := by omega
      have b2 := hf.lo k hk5 hlt
      have b3 := hf.hi k hk5 hlt
      have c1 := hB1.at_ hk5
      have c2 := hB2.at_ (k := (f.at k).toNat) (by omega)
      have c3 := hB4.at_ hk5
      have z1 : wr.frozen? ⟨w.heap.size+1+1+1, 1 + k, none⟩ = false := hB4.frozen _
      have b4 : f.at k < 5 := by omega
      go_wp2
      go_roundw
      case rel => exact ⟨k + 1, by omega, by go_num, hB1.far (by simp <;> omega) _, hB2.far (by simp <;> omega) _, hB3.far (by simp) _, (hB4.set_ _ _).cast (part_step _ _ _ hk5 rfl), by (repeat (first | with_reducible assumption | with_reducible exact Below.refl _ _ | with_reducible refine Below.setCell ?_ (by first | omega | (simp <;> omega)) _ | with_reducible refine Below.alloc ?_ (by first | omega | (simp <;> omega)) _ | with_reducible refine Below.drew ?_ | with_reducible refine Below.drewN ?_ _))⟩
      case measure => simp [intOf]; omega
    · have hfin : part f.p (fun j => g.at (f.at j).toNat) (fun _ => 0) k = mul f g := l01Times_fin hk hlt
      rw [hfin] at hB4
      clear hfin
      obtain ⟨d0, d1, d2, d3, d4, d5⟩ := hB4.six
      obtain ⟨e0, e1, e2, e3, e4, e5⟩ := hB3.six
      obtain ⟨z0, z1, z2, z3, z4, z5⟩ := hB3.fr6
      go_wp2
      refine bodyPost_ret (v := .agg (mc (mul f g))) ?_ rfl ⟨rfl, by (repeat (first | with_reducible assumption | with_reducible exact Below.refl _ _ | with_reducible refine Below.setCell ?_ (by first | omega | (simp <;> omega)) _ | with_reducible refine Below.alloc ?_ (by first | omega | (simp <;> omega)) _ | with_reducible refine Below.drew ?_ | with_reducible refine Below.drewN ?_ _))⟩
      simp [results, Tryz.results37, go_sem, *]
theorem one_fin {n : Int} {k : Nat} (hk : (k : Int) ≤ n) (h : ¬ (k : Int) < n) : part n (fun j => (j : Int)) (fun _ => 0) k = one n := by
  refine mk'_congr fun j _ => ?_
  by_cases hj' : j < k
  · rw [if_pos hj', if_pos (by omega)]
  · rw [if_neg hj', if_neg (by omega)]
theorem l01Identity_any (n : Int) (w : World) (h1 : 1 ≤ n) (h5 : n ≤ 5) :
    Calls Tryz.prog 81 #[.int .i64 n] w fun e w' => e = .returned (.agg (mc (one n))) ∧ Below w.heap.size w w' := by
  go_enter Tryz.func81, Tryz.ntmps81
  go_wp2
  go_loopw [4] (fun i wr => ∃ k : Nat, (k : Int) ≤ n ∧ i = .int .i64 k ∧ Blk wr w.heap.size 26 (mc M0) ∧ Blk wr (w.heap.size+1) 26 (mc (part n (fun j => (j : Int)) (fun _ => 0) k)) ∧ Below w.heap.size w wr)
    (fun i _ => 5 - (intOf i).toNat)
  case atStart =>
    refine ⟨0, by omega, rfl, ?_, ?_, by (repeat (first | with_reducible assumption | with_reducible exact Below.refl _ _ | with_reducible refine Below.setCell ?_ (by first | omega | (simp <;> omega)) _ | with_reducible refine Below.alloc ?_ (by first | omega | (simp <;> omega)) _ | with_reducible refine Below.drew ?_ | with_reducible refine Below.drewN ?_ _))⟩
    · exact (Blk.new w _ _).alloc _
    · rw [part_zero]; exact Blk.new' _ _ _ (by simp)
  case round =>
    obtain ⟨k, hk, rfl, hB1, hB2, hbel⟩ := hrel
    by_cases hlt : (k : Int) < n
    · have hk5 : k < 5 := by omega
      have c3 := hB2.at_ hk5
      have z1 : wr.frozen? ⟨w.heap.size+1, 1 + k, none⟩ = false := hB2.frozen _
      go_wp2
      go_roundw
      case rel => exact ⟨k + 1, by omega, by go_num, hB1.far (by simp) _, (hB2.set_ _ _).cast (part_step _ _ _ hk5 rfl), by (repeat (first | with_reducible assumption | with_reducible exact Below.refl _ _ | with_reducible refine Below.setCell ?_ (by first | omega | (simp <;> omega)) _ | with_reducible refine Below.alloc ?_ (by first | omega | (simp <;> omega)) _ | with_reducible refine Below.drew ?_ | with_reducible refine Below.drewN ?_ _))⟩
      case measure => simp [intOf]; omega
    · have hfin : part n (fun j => (j : Int)) (fun _ => 0) k = one n := one_fin hk hlt
      rw [hfin] at hB2
      clear hfin
      obtain ⟨d0, d1, d2, d3, d4, d5⟩ := hB2.six
      obtain ⟨e0, e1, e2, e3, e4, e5⟩ := hB1.six
      obtain ⟨z0, z1, z2, z3, z4, z5⟩ := hB1.fr6
      go_wp2
      refine bodyPost_ret (v := .agg (mc (one n))) ?_ rfl ⟨rfl, by (repeat (first | with_reducible assumption | with_reducible exact Below.refl _ _ | with_reducible refine Below.setCell ?_ (by first | omega | (simp <;> omega)) _ | with_reducible refine Below.alloc ?_ (by first | omega | (simp <;> omega)) _ | with_reducible refine Below.drew ?_ | with_reducible refine Below.drewN ?_ _))⟩
      simp [results, Tryz.results81, go_sem, *]
theorem run_sizeI (w : World) : Sem.run Tryz.prog (sizeOf 2) w = .ok 1 w := by kernel_rfl
theorem part_mt0 (m : M) (w : World) : Sem.run Tryz.prog (Go.part 2 (mt m) 0) w = .ok (I m.t0) w := by kernel_rfl
theorem part_mt1 (m : M) (w : World) : Sem.run Tryz.prog (Go.part 2 (mt m) 1) w = .ok (I m.t1) w := by kernel_rfl
theorem part_mt2 (m : M) (w : World) : Sem.run Tryz.prog (Go.part 2 (mt m) 2) w = .ok (I m.t2) w := by kernel_rfl
theorem part_mt3 (m : M) (w : World) : Sem.run Tryz.prog (Go.part 2 (mt m) 3) w = .ok (I m.t3) w := by kernel_rfl
theorem part_mt4 (m : M) (w : World) : Sem.run Tryz.prog (Go.part 2 (mt m) 4) w = .ok (I m.t4) w := by kernel_rfl
theorem eqArr (d : Nat) (a b : M) (w : World) : Sem.run Tryz.prog (Op.equalIn (d+2) 24 (.agg (mt a)) (.agg (mt b))) w = .ok (a.t0 == b.t0 && (a.t1 == b.t1 && (a.t2 == b.t2 && (a.t3 == b.t3 && a.t4 == b.t4)))) w := by
  have hI : Tryz.prog.underlying 2 = some (.int .i64) := Tryz.underlying2
  have h23 := Tryz.underlying24
  rw [show d + 2 = (d+1)+1 from rfl]
  unfold Op.equalIn
  simp only [Sem.run_bind, run_underlying h23, Result.andThen_ok, run_sizeI]
  simp only [Std.Legacy.Range.forIn_eq_forIn_range', Std.Legacy.Range.size, List.range'_succ, List.range'_zero, List.forIn_cons, List.forIn_nil]
  simp [Sem.run_bind, part_mt0, part_mt1, part_mt2, part_mt3, part_mt4, run_equalIn_int _ d 2 _ _ _ _ hI]
  by_cases h0 : a.t0 = b.t0
  · by_cases h1 : a.t1 = b.t1
    · by_cases h2 : a.t2 = b.t2
      · by_cases h3 : a.t3 = b.t3
        · by_cases h4 : a.t4 = b.t4 <;> simp [*]
        · simp [*]
      · simp [*]
    · simp [*]
  · simp [*]
theorem eqM_iff (a b : M) : decide (a = b) = (a.p == b.p && (a.t0 == b.t0 && (a.t1 == b.t1 && (a.t2 == b.t2 && (a.t3 == b.t3 && a.t4 == b.t4))))) := by
  obtain ⟨p, a0, a1, a2, a3, a4⟩ := a
  obtain ⟨q, b0, b1, b2, b3, b4⟩ := b
  rw [Bool.eq_iff_iff]; simp
theorem eqMap_run (a b : M) (w : World) : Sem.run Tryz.prog (Op.equalIn 10000 26 (.agg (mc a)) (.agg (mc b))) w = .ok (decide (a = b)) w := by
  rw [eqM_iff]
  have h := eqArr 9997 a b w
  go_simp
  by_cases h0 : a.p = b.p
  · by_cases h1 : a.t0 = b.t0
    · by_cases h2 : a.t1 = b.t1
      · by_cases h3 : a.t2 = b.t2
        · by_cases h4 : a.t3 = b.t3
          · by_cases h5 : a.t4 = b.t4 <;> simp [*]
          · simp [*]
        · simp [*]
      · simp [*]
    · simp [*]
  · simp [*]
end Go.Proofs.YtahamedecibmnaaGreat

namespace Go.Proofs.YtahamedecibmnaaGreat
open Go.RowKit
set_option maxRecDepth 100000
theorem SpecIsMap_any (f : M) (w : World) :
    Calls Tryz.prog 9 #[.agg (mc f)] w fun e w' => e = .returned (.bool (isMap f)) ∧ Below w.heap.size w w' := by
  go_enter Tryz.func9, Tryz.ntmps9
  go_wp2_with fail
  refine (l01Is_any _ _).mono ?_
  rintro e w1 ⟨rfl, hb⟩
  go_wp2
  go_ret
  exact ⟨rfl, Below.trans (by (repeat (first | with_reducible assumption | with_reducible exact Below.refl _ _ | with_reducible refine Below.setCell ?_ (by first | omega | (simp <;> omega)) _ | with_reducible refine Below.alloc ?_ (by first | omega | (simp <;> omega)) _ | with_reducible refine Below.drew ?_ | with_reducible refine Below.drewN ?_ _))) (hb.mono (by simp))⟩
end Go.Proofs.YtahamedecibmnaaGreat

namespace Go.Proofs.YtahamedecibmnaaGreat
open Go.RowKit
set_option maxRecDepth 100000
def Rd (k : Nat) (w : World) (B : Nat) (A : Option Addr) (n : Nat) (cs : List Value) : Prop :=
  cs.length = n * k ∧ (0 < n → ∃ b off, A = some ⟨b, off, none⟩ ∧ b < B ∧ ∀ j u, cs[j]? = some u → w.cell? ⟨b, off + j, none⟩ = some u)
section
variable {k n B B' : Nat} {w w' : World} {A : Option Addr} {cs : List Value}
theorem Rd.keep (h : Rd k w B A n cs) (hk : ∀ p : Addr, p.block < B → w'.cell? p = w.cell? p) : Rd k w' B A n cs :=
  ⟨h.1, fun hn => by
    obtain ⟨b, off, e, hb, hc⟩ := h.2 hn
    exact ⟨b, off, e, hb, fun j u hu => (hk ⟨b, off + j, none⟩ hb).trans (hc j u hu)⟩⟩
theorem Rd.more (h : Rd k w B A n cs) (hB : B ≤ B') : Rd k w B' A n cs :=
  ⟨h.1, fun hn => by
    obtain ⟨b, off, e, hb, hc⟩ := h.2 hn
    exact ⟨b, off, e, by omega, hc⟩⟩
theorem Rd.below (h : Rd k w B A n cs) (hb : Below B w w') : Rd k w' B A n cs := h.keep fun _ hp => hb.cell hp
theorem Rd.below' {m : Nat} (h : Rd k w B A n cs) (hb : Below m w w') (hm : B ≤ m) : Rd k w' B A n cs := h.keep fun _ hp => hb.cell (by omega)
theorem Rd.drewN (h : Rd k w B A n cs) (m : Nat) : Rd k (w.drewN m) B A n cs := h
theorem Rd.drew (h : Rd k w B A n cs) : Rd k w.drew B A n cs := h
theorem Rd.alloc (h : Rd k w B A n cs) (hB : B ≤ w.heap.size) (o : Obj) : Rd k (w.alloc o) B A n cs := h.keep fun p hp => World.cell?_alloc_lt w o p (by omega)
theorem Rd.setCell (h : Rd k w B A n cs) {p : Addr} (hB : B ≤ p.block) (u : Value) : Rd k (w.setCell p u) B A n cs :=
  h.keep fun q hq => World.cell?_setCell_other w p q u (fun e => by subst e; omega)
theorem Rd.grown (h : Rd k w B A n cs) {row : Option Nat} (hg : w.grownBy w' row) (hB : B ≤ w.heap.size) (hr : ∀ g, row = some g → B ≤ g) : Rd k w' B A n cs :=
  h.keep fun p hp => World.cell?_of_block (hg.block p.block (by omega) (fun e => by have := hr _ e.symm; omega))
theorem Rd.nil_ : Rd k w B A 0 [] := ⟨by simp, fun h => absurd h (by omega)⟩
theorem Rd.of_own {base : Nat} {e : TypeId} {c : Nat} (h : w.ownsRow base e k (.slice A n c) n cs) : Rd k w w.heap.size A n cs := by
  refine ⟨h.1, fun hn => ?_⟩
  rcases h.2 with ⟨_, h0⟩ | ⟨g, cap, cur, hv, _, hg, _, _, _, ht⟩
  · omega
  · injection hv with hA _ _
    subst hA
    refine ⟨g, 0, rfl, (Array.getElem?_eq_some_iff.1 hg).1, fun j u hu => ?_⟩
    rw [Nat.zero_add, cell_of_row w g j cur e (0, 0) hg]
    rw [← ht, List.getElem?_take] at hu
    split at hu
    · simpa using hu
    · cases hu
end
/-! ### rows of numbers -/
def cI (zs : List Int) : List Value := zs.map I
def gi (zs : List Int) (k : Nat) : Int := zs.getD k 0
theorem gi_eq {zs : List Int} {k : Nat} (hk : k < zs.length) : gi zs k = zs[k] := by simp [gi, List.getD, hk]
theorem cI_length (zs : List Int) : (cI zs).length = zs.length := by simp [cI]
theorem cI_get {zs : List Int} {k : Nat} (hk : k < zs.length) : (cI zs)[k]? = some (I (gi zs k)) := by simp [cI, gi, List.getD, hk]
theorem cI_snoc (zs : List Int) (z : Int) : cI (zs ++ [z]) = cI zs ++ [I z] := by simp [cI]
def RdI (w : World) (B : Nat) (A : Option Addr) (zs : List Int) : Prop := Rd 1 w B A zs.length (cI zs)
theorem RdI.at_ {w : World} {B : Nat} {A : Option Addr} {zs : List Int} (h : RdI w B A zs) {k : Nat} (hk : k < zs.length) :
    ∃ b off, A = some ⟨b, off, none⟩ ∧ b < B ∧ w.cell? ⟨b, off + k, none⟩ = some (I (gi zs k)) := by
  obtain ⟨b, off, e, hb, hc⟩ := h.2 (by omega)
  exact ⟨b, off, e, hb, hc k _ (cI_get hk)⟩
def OwI (e : TypeId) (w : World) (B : Nat) (v : Value) (zs : List Int) : Prop := w.ownsRow B e 1 v zs.length (cI zs)
section
variable {e : TypeId} {w w' : World} {B B' : Nat} {v : Value} {zs : List Int}
theorem OwI.form (h : OwI e w B v zs) : ∃ A c, v = .slice A zs.length c ∧ RdI w w.heap.size A zs := by
  rcases h.2 with ⟨rfl, h0⟩ | ⟨g, cap, cur, rfl, _⟩
  · have hz : zs = [] := List.eq_nil_of_length_eq_zero h0
    subst hz
    exact ⟨none, 0, rfl, Rd.nil_⟩
  · exact ⟨_, _, rfl, Rd.of_own h⟩
theorem OwI.lt (h : OwI e w B v zs) : ∀ g, v.ownBlock = some g → B ≤ g ∧ g < w.heap.size := World.ownsRow.lt h
theorem OwI.mono (h : OwI e w B v zs) (hB : B' ≤ B) : OwI e w B' v zs := by
  refine ⟨h.1, ?_⟩
  rcases h.2 with hn | ⟨g, cap, cur, hv, hg, rest⟩
  · exact .inl hn
  · exact .inr ⟨g, cap, cur, hv, by omega, rest⟩
theorem OwI.keep (h : OwI e w B v zs) (hk : ∀ g, v.ownBlock = some g → w'.heap[g]? = w.heap[g]?) : OwI e w' B v zs := by
  refine ⟨h.1, ?_⟩
  rcases h.2 with hn | ⟨g, cap, cur, rfl, hg, hh, rest⟩
  · exact .inl hn
  · exact .inr ⟨g, cap, cur, rfl, hg, by rw [hk g rfl]; exact hh, rest⟩
theorem OwI.below {m : Nat} (h : OwI e w B v zs) (hb : Below m w w') (hm : w.heap.size ≤ m) : OwI e w' B v zs :=
  h.keep fun g hg => hb.block g (by have := h.lt g hg; omega)
theorem OwI.alloc (h : OwI e w B v zs) (o : Obj) : OwI e (w.alloc o) B v zs := h.keep fun g hg => Below.heap_alloc w o g (h.lt g hg).2
theorem OwI.drew (h : OwI e w B v zs) : OwI e w.drew B v zs := h
theorem OwI.drewN (h : OwI e w B v zs) (n : Nat) : OwI e (w.drewN n) B v zs := h
theorem OwI.far (h : OwI e w B v zs) {p : Addr} (hp : v.ownBlock ≠ some p.block) (u : Value) : OwI e (w.setCell p u) B v zs :=
  h.keep fun g hg => Below.heap_setCell w p u g (fun e => hp (by rw [hg, e]))
theorem OwI.ne (h : OwI e w B v zs) {g : Nat} (hg : g < B) : some g ≠ v.ownBlock := fun he => by have := h.lt g he.symm; omega
theorem OwI.bel (h : OwI e w B v zs) {n : Nat} {w0 : World} (hb : Below n w0 w) (hg : w.grownBy w' v.ownBlock) (hB : n ≤ B) (hs : n ≤ w.heap.size) : Below n w0 w' :=
  hb.grown hg hs fun k hk => by have := h.lt k hk; omega
theorem OwI.spot (h : OwI e w B v zs) {k : Nat} (hk : k < zs.length) : ∃ g c, v = .slice (some ⟨g, 0, none⟩) zs.length c ∧ B ≤ g ∧ g < w.heap.size ∧ w.cell? ⟨g, k, none⟩ = some (I (gi zs k)) ∧ w.frozen? ⟨g, k, none⟩ = false ∧
    ∀ z, OwI e (w.setCell ⟨g, k, none⟩ (I z)) B v (zs.set k z) := by
  rcases h.2 with ⟨_, h0⟩ | ⟨g, cap, cur, rfl, hg, hh, hn, hm, hs, ht⟩
  · omega
  · have hcell : w.cell? ⟨g, k, none⟩ = some (I (gi zs k)) := by
      rw [cell_of_row w g k cur e (0, 0) hh]
      have := cI_get hk
      rw [← ht, List.getElem?_take] at this
      split at this
      · simpa using this
      · cases this
    refine ⟨g, cap, rfl, hg, (Array.getElem?_eq_some_iff.1 hh).1, hcell, by simp [World.frozen?, hh], fun z => ⟨by simp [cI], .inr ⟨g, cap, cur.setIfInBounds k (I z), by simp, hg, ?_, by simpa using hn, hm, by simpa using hs, ?_⟩⟩⟩
    · simp [World.setCell, Array.getElem?_modify, hh]
    · rw [Array.toList_setIfInBounds, List.take_set, List.length_set, ht]
      simp [cI, List.map_set]
theorem OwI.of_heap (h : OwI e w B v zs) (hh : w'.heap = w.heap) : OwI e w' B v zs := h.keep fun g _ => by rw [hh]
theorem OwI.nil_ : OwI e w B (.slice none 0 0) [] := World.ownsRow_nil w B e 1
theorem OwI.made' {n : Nat} (hn : n = w.heap.size) (hb : B ≤ n) : OwI e (w.alloc (.cells #[] e)) B (.slice (some ⟨n, 0, none⟩) 0 0) [] := by
  subst hn; exact World.ownsRow_made w #[] 0 hb (by simp [maxLen]) (by simp)
theorem OwI.made (hb : B ≤ w.heap.size) : OwI e (w.alloc (.cells #[] e)) B (.slice (some ⟨w.heap.size, 0, none⟩) 0 0) [] :=
  World.ownsRow_made w #[] 0 hb (by simp [maxLen]) (by simp)
end
theorem grownBy_set {w w' : World} {g k : Nat} {n c : Nat} {u : Value} (h : w.grownBy w' (Value.slice (some ⟨g, 0, none⟩) n c).ownBlock) : w.grownBy (w'.setCell ⟨g, k, none⟩ u) (Value.slice (some ⟨g, 0, none⟩) n c).ownBlock :=
  ⟨h.os, h.tape, h.output, by simpa [World.setCell] using h.size, fun j hj hne => (Below.heap_setCell w' _ u j (fun e => hne (by simp [Value.ownBlock, e]))).trans (h.block j hj hne)⟩
/-! ### the element types -/
theorem infoI : (Tryz.prog.info? 2).map (fun i => (i.zero, i.size, i.bytes)) = some (some (.int .i64 0), 1, 8) := by kernel_rfl
set_option maxRecDepth 100000 in
theorem wpList_pushI {w : World} {ops : Array Oper} {rest : List Oper} {o : Oper} {a : Act} {Q : Exit → Act → World → Prop} (hgd : o.guard = none) (s x : Operand)
    (ho : o.op = .call { callee := .builtin .append, args := #[s, x], argTypes := #[37, 37] }) (B : Nat) (v : Value) (zs : List Int) (hs : a.eval s = v) (hown : OwI 2 w B v zs)
    (g : Nat) (c : Nat) (z : Int) (hx : a.eval x = .slice (some ⟨g, 0, none⟩) 1 c) (hg : w.cell? ⟨g, 0, none⟩ = some (I z))
    (hn : zs.length < 1073741824) (hB : B ≤ w.heap.size) (H : Nat) (hH : w.heap.size = H)
    (h : ∀ g' cap w', OwI 2 w' B (.slice (some ⟨g', 0, none⟩) (zs.length + 1) cap) (zs ++ [z]) → w.grownBy w' v.ownBlock → (v.ownBlock = some g' ∨ g' = H) → g' < w'.heap.size →
      wpList Tryz.prog ops Q rest (a.put o.dst (.slice (some ⟨g', 0, none⟩) (zs.length + 1) cap)) w') : wpList Tryz.prog ops Q (o :: rest) a w := by
  obtain ⟨i, hi, hz0, hz1, hz2⟩ := info_parts infoI
  refine wpList_append_lies w hgd s x 37 ho B 2 i (.int .i64 0) 1 8 Tryz.underlying37 hi hz0 hz1 hz2 rfl (by decide) v zs.length (cI zs) hs hown ⟨g, 0, none⟩ 1 c [I z] hx rfl ?_ ?_ (by decide) (by unfold maxLen; omega) (by omega) hB H hH ?_
  · intro j u hj
    match j, hj with
    | 0, hj => simp at hj; subst hj; simpa [Addr.add] using hg
  · intro u hu; simp at hu; subst hu; rfl
  · intro g' cap w' h1 h2 h3 h4
    exact h g' cap w' (by unfold OwI; rw [cI_snoc]; simpa using h1) h2 h3 h4
set_option maxRecDepth 100000 in
theorem wpList_appI {w : World} {ops : Array Oper} {rest : List Oper} {o : Oper} {a : Act} {Q : Exit → Act → World → Prop} (hgd : o.guard = none) (s x : Operand)
    (ho : o.op = .call { callee := .builtin .append, args := #[s, x], argTypes := #[37, 37] }) (B : Nat) (v : Value) (zs : List Int) (hs : a.eval s = v) (hown : OwI 2 w B v zs)
    (b off c : Nat) (ys : List Int) (hx : a.eval x = .slice (some ⟨b, off, none⟩) ys.length c) (hy : RdI w w.heap.size (some ⟨b, off, none⟩) ys) (hpos : 0 < ys.length)
    (hn : zs.length + ys.length < 1073741824) (hB : B ≤ w.heap.size) (H : Nat) (hH : w.heap.size = H)
    (h : ∀ g' cap w', OwI 2 w' B (.slice (some ⟨g', 0, none⟩) (zs.length + ys.length) cap) (zs ++ ys) → w.grownBy w' v.ownBlock → (v.ownBlock = some g' ∨ g' = H) → g' < w'.heap.size →
      wpList Tryz.prog ops Q rest (a.put o.dst (.slice (some ⟨g', 0, none⟩) (zs.length + ys.length) cap)) w') : wpList Tryz.prog ops Q (o :: rest) a w := by
  obtain ⟨i, hi, hz0, hz1, hz2⟩ := info_parts infoI
  refine wpList_append_lies w hgd s x 37 ho B 2 i (.int .i64 0) 1 8 Tryz.underlying37 hi hz0 hz1 hz2 rfl (by decide) v zs.length (cI zs) hs hown ⟨b, off, none⟩ ys.length c (cI ys) hx (by simp [cI]) ?_ ?_ hpos (by unfold maxLen; omega) (by omega) hB H hH ?_
  · intro j u hj
    obtain ⟨b', off', e, _, hc⟩ := hy.2 hpos
    injection e with e
    injection e with e1 e2
    subst e1 e2
    have := hc j u hj
    unfold Addr.add
    split
    · rename_i h0; subst h0; simpa using this
    · exact this
  · intro u hu; simp [cI] at hu; obtain ⟨z, _, rfl⟩ := hu; rfl
  · intro g' cap w' h1 h2 h3 h4
    exact h g' cap w' (by unfold OwI; simpa [cI] using h1) h2 h3 h4
end Go.Proofs.YtahamedecibmnaaGreat

namespace Go.Proofs.YtahamedecibmnaaGreat
open Go.RowKit
set_option maxRecDepth 100000
theorem OwI.spotAt {e : TypeId} {w : World} {B g n c : Nat} {zs : List Int} (h : OwI e w B (.slice (some ⟨g, 0, none⟩) n c) zs) {k : Nat} (hk : k < zs.length) :
    w.cell? ⟨g, k, none⟩ = some (I (gi zs k)) ∧ w.frozen? ⟨g, k, none⟩ = false ∧ g < w.heap.size ∧ B ≤ g ∧ ∀ z, OwI e (w.setCell ⟨g, k, none⟩ (I z)) B (.slice (some ⟨g, 0, none⟩) n c) (zs.set k z) := by
  obtain ⟨g', c', hv, h1, h2, h3, h4, h5⟩ := h.spot hk
  injection hv with hv e2 e3
  injection hv with hv
  injection hv with hv _ _
  subst hv
  exact ⟨h3, h4, h2, h1, h5⟩
end Go.Proofs.YtahamedecibmnaaGreat

namespace Go.Proofs.YtahamedecibmnaaGreat
open Go.RowKit
set_option maxRecDepth 100000
def made (zs : List Int) : M := M.mk' zs.length (gi zs)
theorem made_p (zs : List Int) : (made zs).p = zs.length := rfl
theorem made_at {zs : List Int} {k : Nat} (hk : k < 5) : (made zs).at k = gi zs k := at_mk' _ _ hk
theorem gi_out {zs : List Int} {k : Nat} (h : zs.length ≤ k) : gi zs k = 0 := by simp [gi, List.getD, List.getElem?_eq_none h]
theorem made_fin {zs : List Int} : part (zs.length : Int) (gi zs) (fun _ => 0) zs.length = made zs := by
  refine mk'_congr fun j _ => ?_
  by_cases h : j < zs.length
  · rw [if_pos h]
  · rw [if_neg h, gi_out (by omega)]
theorem l01Made_any (A : Option Addr) (n c : Nat) (zs : List Int) (w : World) (hx : RdI w w.heap.size A zs) (hn : zs.length = n) (hb : n ≤ 5) :
    Calls Tryz.prog 59 #[.slice A n c] w fun e w' => e = .returned (.agg (mc (made zs))) ∧ Below w.heap.size w w' := by
  have Hn := Lib.hid hn
  have Hx := Lib.hid hx
  clear hn hx
  go_enter Tryz.func59, Tryz.ntmps59
  go_wp2
  go_loopw [4] (fun i wr => ∃ k : Nat, k ≤ n ∧ i = .int .i64 k ∧ Blk wr w.heap.size 26 (mc M0) ∧ Blk wr (w.heap.size+1) 26 (mc (part (n : Int) (gi zs) (fun _ => 0) k)) ∧ Below w.heap.size w wr)
    (fun i _ => 5 - (intOf i).toNat)
  case atStart =>
    refine ⟨0, by omega, rfl, ?_, ?_, by (repeat (first | with_reducible assumption | with_reducible exact Below.refl _ _ | with_reducible refine Below.setCell ?_ (by first | omega | (simp <;> omega)) _ | with_reducible refine Below.alloc ?_ (by first | omega | (simp <;> omega)) _ | with_reducible refine Below.drew ?_ | with_reducible refine Below.drewN ?_ _))⟩
    · exact (Blk.new w _ _).alloc _
    · rw [part_zero]; exact Blk.new' _ _ _ (by simp)
  case round =>
    obtain ⟨k, hk, rfl, hB1, hB2, hbel⟩ := hrel
    by_cases hlt : k < n
    · have hk5 : k < 5 := by omega
      obtain ⟨b, off, rfl, hbb, c1⟩ := RdI.at_ (Hx.out.below hbel) (k := k) (by rw [Hn.out]; exact hlt)
      have c3 := hB2.at_ hk5
      have z1 : wr.frozen? ⟨w.heap.size+1, 1 + k, none⟩ = false := hB2.frozen _
      go_wp2
      go_roundw
      case rel => exact ⟨k + 1, by omega, by go_num, hB1.far (by simp) _, (hB2.set_ _ _).cast (part_step _ _ _ hk5 rfl), by (repeat (first | with_reducible assumption | with_reducible exact Below.refl _ _ | with_reducible refine Below.setCell ?_ (by first | omega | (simp <;> omega)) _ | with_reducible refine Below.alloc ?_ (by first | omega | (simp <;> omega)) _ | with_reducible refine Below.drew ?_ | with_reducible refine Below.drewN ?_ _))⟩
      case measure => simp [intOf]; omega
    · have hfin : part (n : Int) (gi zs) (fun _ => 0) k = made zs := by
        obtain rfl : k = n := by omega
        rw [← Hn.out]; exact made_fin
      rw [hfin] at hB2
      clear hfin
      obtain ⟨d0, d1, d2, d3, d4, d5⟩ := hB2.six
      obtain ⟨e0, e1, e2, e3, e4, e5⟩ := hB1.six
      obtain ⟨z0, z1, z2, z3, z4, z5⟩ := hB1.fr6
      go_wp2
      refine bodyPost_ret (v := .agg (mc (made zs))) ?_ rfl ⟨rfl, by (repeat (first | with_reducible assumption | with_reducible exact Below.refl _ _ | with_reducible refine Below.setCell ?_ (by first | omega | (simp <;> omega)) _ | with_reducible refine Below.alloc ?_ (by first | omega | (simp <;> omega)) _ | with_reducible refine Below.drew ?_ | with_reducible refine Below.drewN ?_ _))⟩
      simp [results, Tryz.results59, go_sem, *]
def okList (zs : List Int) : Bool := zs.all fun z => inR z 0 (zs.length - 1)
theorem okList_iff (zs : List Int) : okList zs = true ↔ ∀ k, k < zs.length → inR (gi zs k) 0 (zs.length - 1) = true := by
  unfold okList
  rw [List.all_eq_true]
  constructor
  · intro h k hk; exact h _ (by rw [gi_eq hk]; exact List.getElem_mem hk)
  · intro h z hz
    obtain ⟨k, hk, e⟩ := List.getElem_of_mem hz
    have := h k hk
    rwa [gi_eq hk, e] at this
theorem isMap_made {zs : List Int} (h1 : 1 ≤ zs.length) (h5 : zs.length ≤ 5) : isMap (made zs) = okList zs := by
  rw [Bool.eq_iff_iff, isMap_iff, okList_iff]
  constructor
  · intro h k hk
    rw [inR_true]
    have a := h.lo k (by omega) (by rw [made_p]; omega)
    have b := h.hi k (by omega) (by rw [made_p]; omega)
    rw [made_at (by omega)] at a b
    rw [made_p] at b
    omega
  · intro h
    refine ⟨by rw [made_p]; omega, by rw [made_p]; omega, ?_, ?_, ?_⟩
    · intro k hk hp; rw [made_p] at hp; rw [made_at hk]; have := inR_true.1 (h k (by omega)); omega
    · intro k hk hp; rw [made_p] at hp ⊢; rw [made_at hk]; have := inR_true.1 (h k (by omega)); omega
    · intro k hk hp; rw [made_p] at hp; rw [made_at hk, gi_out (by omega)]
def mapOfOk (zs : List Int) : Bool := inR zs.length 1 5 && okList zs
def mapOfR (zs : List Int) : M := if mapOfOk zs then made zs else M0
def mapOfC (zs : List Int) : Int := if mapOfOk zs then 0 else 2
theorem SpecMapOf_any (A : Option Addr) (n c : Nat) (zs : List Int) (w : World) (hx : RdI w w.heap.size A zs) (hn : zs.length = n) (hb : n < 1073741824) :
    Calls Tryz.prog 24 #[.slice A n c] w fun e w' => e = .returned (.tuple #[.agg (mc (mapOfR zs)), I (mapOfC zs)]) ∧ Below w.heap.size w w' := by
  have Hn := Lib.hid hn
  have Hx := Lib.hid hx
  clear hn hx
  cases hr : inR n 1 5
  · have Hr : Hid (mapOfR zs = M0 ∧ mapOfC zs = 2) := by
      have : mapOfOk zs = false := by unfold mapOfOk; rw [Hn.out, hr]; rfl
      exact ⟨by simp [mapOfR, this], by simp [mapOfC, this]⟩
    go_enter Tryz.func24, Tryz.ntmps24
    go_wp2_with (go_at_call 58; refine (l01In_any _ _ _ _).mono ?_; rintro e w' ⟨rfl, rfl⟩)
    refine bodyPost_ret (v := .tuple #[.agg (mc M0), I 2]) ?_ rfl ⟨by rw [Hr.out.1, Hr.out.2], by (repeat (first | with_reducible assumption | with_reducible exact Below.refl _ _ | with_reducible refine Below.setCell ?_ (by first | omega | (simp <;> omega)) _ | with_reducible refine Below.alloc ?_ (by first | omega | (simp <;> omega)) _ | with_reducible refine Below.drew ?_ | with_reducible refine Below.drewN ?_ _))⟩
    simp [results, Tryz.results24, go_sem, *]
    exact ⟨rfl, rfl, rfl, rfl, rfl, rfl⟩
  · have hr1 := (inR_true.1 hr).1
    have hr2 := (inR_true.1 hr).2
    have Hin := Lib.hid hr
    go_enter Tryz.func24, Tryz.ntmps24
    go_wp2_with (go_at_call 58; refine (l01In_any _ _ _ _).mono ?_; rintro e w' ⟨rfl, rfl⟩)
    clear hr
    go_loopw [5] (fun i wr => ∃ k : Nat, k ≤ n ∧ i = .int .i64 k ∧ Hid (∀ j, j < k → inR (gi zs j) 0 (n - 1) = true) ∧ Blk wr w.heap.size 26 (mc M0) ∧ Below w.heap.size w wr) (fun i _ => n - (intOf i).toNat)
    case atStart => exact ⟨0, by omega, rfl, fun j hj => absurd hj (by omega), Blk.new _ _ _, by (repeat (first | with_reducible assumption | with_reducible exact Below.refl _ _ | with_reducible refine Below.setCell ?_ (by first | omega | (simp <;> omega)) _ | with_reducible refine Below.alloc ?_ (by first | omega | (simp <;> omega)) _ | with_reducible refine Below.drew ?_ | with_reducible refine Below.drewN ?_ _))⟩
    case round =>
      obtain ⟨k, hk, rfl, hg, hB, hbel⟩ := hrel
      obtain ⟨e0, e1, e2, e3, e4, e5⟩ := hB.six
      obtain ⟨z0, z1, z2, z3, z4, z5⟩ := hB.fr6
      by_cases hlt : k < n
      · obtain ⟨b, off, rfl, hbb, c1⟩ := RdI.at_ (Hx.out.below hbel) (k := k) (by rw [Hn.out]; exact hlt)
        cases hin : inR (gi zs k) 0 (n - 1)
        · have Hr : Hid (mapOfR zs = M0 ∧ mapOfC zs = 2) := by
            have h1 : okList zs = false := by
              cases h : okList zs with
              | false => rfl
              | true => have := (okList_iff zs).1 h k (by have := Hn.out; omega); rw [Hn.out, hin] at this; cases this
            have : mapOfOk zs = false := by unfold mapOfOk; rw [h1]; simp
            exact ⟨by simp [mapOfR, this], by simp [mapOfC, this]⟩
          go_wp2_with (go_at_call 58; refine (l01In_any _ _ _ _).mono ?_; rintro e w' ⟨rfl, rfl⟩)
          refine bodyPost_ret (v := .tuple #[.agg (mc M0), I 2]) ?_ rfl ⟨by rw [Hr.out.1, Hr.out.2], by (repeat (first | with_reducible assumption | with_reducible exact Below.refl _ _ | with_reducible refine Below.setCell ?_ (by first | omega | (simp <;> omega)) _ | with_reducible refine Below.alloc ?_ (by first | omega | (simp <;> omega)) _ | with_reducible refine Below.drew ?_ | with_reducible refine Below.drewN ?_ _))⟩
          simp [results, Tryz.results24, go_sem, *]
          try exact ⟨rfl, rfl, rfl, rfl, rfl, rfl⟩
        · have Hs : Hid (∀ j, j < k + 1 → inR (gi zs j) 0 (n - 1) = true) := by
            intro j hj; by_cases e : j = k
            · subst e; exact hin
            · exact hg.out j (by omega)
          go_wp2_with (go_at_call 58; refine (l01In_any _ _ _ _).mono ?_; rintro e w' ⟨rfl, rfl⟩)
          go_roundw
          case rel => exact ⟨k + 1, by omega, by go_num, Hs.out, hB, hbel⟩
          case measure => simp [intOf]; omega
      · have Hr : Hid (mapOfR zs = made zs ∧ mapOfC zs = 0) := by
          have h1 : okList zs = true := (okList_iff zs).2 fun j hj => by have := hg.out j (by have := Hn.out; omega); rwa [← Hn.out] at this
          have : mapOfOk zs = true := by unfold mapOfOk; rw [h1, Hn.out, Hin.out]; rfl
          exact ⟨by simp [mapOfR, this], by simp [mapOfC, this]⟩
        go_wp2_with fail
        refine (l01Made_any A n c zs _ ((Hx.out.below hbel).more hbel.size) Hn.out (by omega)).mono ?_
        rintro e w1 ⟨rfl, hb1⟩
        replace hB := hB.below hb1 hB.lt
        replace hbel := hbel.trans (hb1.mono hbel.size)
        clear hb1 e0 e1 e2 e3 e4 e5 z0 z1 z2 z3 z4 z5
        obtain ⟨e0, e1, e2, e3, e4, e5⟩ := hB.six
        obtain ⟨z0, z1, z2, z3, z4, z5⟩ := hB.fr6
        go_wp2
        refine bodyPost_ret (v := .tuple #[.agg (mc (made zs)), I 0]) ?_ rfl ⟨by rw [Hr.out.1, Hr.out.2], by (repeat (first | with_reducible assumption | with_reducible exact Below.refl _ _ | with_reducible refine Below.setCell ?_ (by first | omega | (simp <;> omega)) _ | with_reducible refine Below.alloc ?_ (by first | omega | (simp <;> omega)) _ | with_reducible refine Below.drew ?_ | with_reducible refine Below.drewN ?_ _))⟩
        simp [results, Tryz.results24, go_sem, *]
end Go.Proofs.YtahamedecibmnaaGreat

namespace Go.Proofs.YtahamedecibmnaaGreat
open Go.RowKit
def Pending (ops : Array Oper) (listed : Array Bool) (t : Nat) : Prop := ∃ (j : Nat) (o : Oper), ops[j]? = some o ∧ o.dst = some t ∧ listed.getD j false = false
def looksOk (ops : Array Oper) : Bool :=
  (List.range ops.size).all fun i =>
    match ops[i]? with
    | none => true
    | some o => (o.after.all fun e => !Region.binds .any e || decide (e.on < i)) &&
      (List.range ops.size).all fun j => match ops[j]? with
        | none => true
        | some p => match p.dst with
          | none => true
          | some d => !(o.looksAt ops).contains d || o.after.any fun e => Region.binds .any e && e.on == j
theorem looksOk_spec {ops : Array Oper} (h : looksOk ops = true) {i : Nat} {o : Oper} (ho : ops[i]? = some o) :
    (∀ e ∈ o.after, Region.binds .any e = true → e.on < i) ∧ ∀ (j : Nat) (p : Oper) (d : Nat), ops[j]? = some p → p.dst = some d → d ∈ o.looksAt ops → ∃ e ∈ o.after, Region.binds .any e = true ∧ e.on = j := by
  have hi : i < ops.size := (Array.getElem?_eq_some_iff.1 ho).1
  have h1 := List.all_eq_true.1 h i (List.mem_range.2 hi)
  simp only [ho, Bool.and_eq_true, Array.all_eq_true_iff_forall_mem, Bool.or_eq_true, Bool.not_eq_true', decide_eq_true_eq] at h1
  refine ⟨fun e he hb => (h1.1 e he).resolve_left (by rw [hb]; simp), fun j p d hp hd hl => ?_⟩
  have hj : j < ops.size := (Array.getElem?_eq_some_iff.1 hp).1
  have h2 := List.all_eq_true.1 h1.2 j (List.mem_range.2 hj)
  simp only [hp, hd] at h2
  rw [Bool.or_eq_true] at h2
  rcases h2 with h2 | h2
  · simp [hl] at h2
  · obtain ⟨k, hk, hb⟩ := Array.any_eq_true.1 h2
    simp only [Bool.and_eq_true, beq_iff_eq] at hb
    exact ⟨o.after[k], Array.getElem_mem hk, hb.1, hb.2⟩
section
variable {P : Program} {ops : Array Oper}
theorem upon_of {o : Oper} {a b : Act} {K K' : Act → World → Prop} {Q : Exit → Act → World → Prop} {r : Result Next}
    (h : o.upon P b K' (fun _ _ _ => False) r) (hK : ∀ v w', K' (b.put o.dst v) w' → K (a.put o.dst v) w')
    (hk : ∀ b' : Act, b'.defers ≠ b.defers → ∀ w', ¬ K' b' w') : o.upon P a K Q r := by
  cases r with
  | ok n w' =>
    cases n <;> simp only [Oper.upon] at h ⊢
    case value v => exact hK _ _ h
    case skip => exact hK _ _ h
    case enter f args =>
      refine Calls.mono h fun e w'' he => ?_
      cases e with
      | returned v => exact hK _ _ he
      | panicked ch => exact he.elim
      | outgrown => obtain ⟨_, _, hf⟩ := he; exact hf.elim
    case row row args => exact Rows.mono h fun v w'' he => hK _ _ he
    case defer d =>
      refine (hk _ ?_ _ h).elim
      intro e
      have := congrArg List.length e
      cases hdst : o.dst <;> simp [Act.put, hdst] at this
  | halt x w' => cases x <;> simp only [Oper.upon] at h ⊢
theorem wp_region_fixR {γ : Type} {id : Nat} {a : Act} {w : World} {Q : Exit → Act → World → Prop} (hm : P.follows .mixedOrders = true) (hns : Region.noSelect ops = true) (hlook : looksOk ops = true)
    (F : γ → Array Value) (S : Array Bool → γ → World → Prop) (c0 : γ) (hS : S (Array.replicate ops.size false) c0 w.drew)
    (hsize : ∀ c, (F c).size = a.tmps.size)
    (hsame : ∀ t, ¬ Pending ops (Array.replicate ops.size false) t → a.tmps.getD t undef = (F c0).getD t undef)
    (hop : ∀ (i : Nat) (o : Oper), ops[i]? = some o → ∀ listed c w', listed.size = ops.size → i ∈ Region.ready .any ops listed → S listed c w' →
      if Region.wanted o (yielded ops (F c)) = true then
        o.wp P ⟨F c, a.defers⟩ w' (fun a' w'' => ∃ c', (a'.defers = a.defers ∧ ∀ t, o.dst = some t → a'.tmps.getD t undef = (F c').getD t undef) ∧ S (listed.setIfInBounds i true) c' w'' ∧ ∀ t, ¬ Pending ops (listed.setIfInBounds i true) t → o.dst ≠ some t → (F c').getD t undef = (F c).getD t undef) (fun _ _ _ => False)
      else (⟨F c, a.defers⟩ : Act).put o.dst undef = ⟨F c, a.defers⟩ ∧ S (listed.setIfInBounds i true) c w')
    (hQ : ∀ listed c w', (∀ i, i < ops.size → listed.getD i false = true) → S listed c w' → Q .normal ⟨F c, a.defers⟩ w') : (Code.region id ops true).wp P Q a w := by
  refine wp_region_any hm ?_
  have main : ∀ (fuel : Nat) (listed : Array Bool) (b : Act) (w' : World) (c : γ), listed.size = ops.size → ((List.range ops.size).filter fun i => !listed.getD i false).length = fuel →
      b.defers = a.defers → b.tmps.size = a.tmps.size → (∀ t, ¬ Pending ops listed t → b.tmps.getD t undef = (F c).getD t undef) → S listed c w' → wpAny P .any ops Q fuel listed b w' := by
    intro fuel
    induction fuel with
    | zero =>
      intro listed b w' c hls hcount hbd hbs hagree hSw
      have hall : ∀ i, i < ops.size → listed.getD i false = true := by
        intro i hi
        have hnil := List.length_eq_zero_iff.1 hcount
        rw [List.filter_eq_nil_iff] at hnil
        have := hnil i (List.mem_range.2 hi)
        simpa using this
      refine ⟨?_, ?_⟩
      · rw [List.eq_nil_iff_forall_not_mem]
        intro i hi
        obtain ⟨h0, o, ho, _⟩ := mem_ready.1 hi
        have hlt : i < ops.size := (Array.getElem?_eq_some_iff.1 ho).1
        have := hall i hlt
        have hi' : i < listed.size := by omega
        simp [hi'] at h0 this
        rw [h0] at this
        cases this
      · have hb : b = ⟨F c, a.defers⟩ := by
          obtain ⟨bt, bd⟩ := b
          simp only at hbd hbs hagree
          subst hbd
          congr 1
          refine Array.ext (by rw [hbs, hsize]) fun t h1 h2 => ?_
          have := hagree t (by rintro ⟨j, o, ho, _, hl⟩; have := hall j (Array.getElem?_eq_some_iff.1 ho).1; rw [hl] at this; cases this)
          simpa [Array.getD, h1, h2] using this
        rw [hb]
        exact hQ listed c w' hall hSw
    | succ fuel ih =>
      intro listed b w' c hls hcount hbd hbs hagree hSw
      refine ⟨?_, ?_⟩
      · intro hnil
        exfalso
        -- the least operation that is not done may come up
        have hex : ∃ i, i < ops.size ∧ listed.getD i false = false := by
          have hne : ((List.range ops.size).filter fun i => !listed.getD i false) ≠ [] := by
            intro e; rw [e] at hcount; simp at hcount
          obtain ⟨i, hi⟩ := List.exists_mem_of_ne_nil _ hne
          rw [List.mem_filter, List.mem_range] at hi
          exact ⟨i, hi.1, by simpa using hi.2⟩
        obtain ⟨i, ⟨hi, hil⟩, hmin⟩ := exists_least hex
        have ho : ops[i]? = some ops[i] := Array.getElem?_eq_getElem hi
        have hmem : i ∈ Region.ready .any ops listed := by
          refine mem_ready.2 ⟨?_, ops[i], ho, fun e he hbe => ?_⟩
          · have hi' : i < listed.size := by omega
            simp [hi'] at hil ⊢; exact hil
          · have hlt := (looksOk_spec hlook ho).1 e he hbe
            cases hc : listed.getD e.on false with
            | true => rfl
            | false => exact absurd (hmin e.on ⟨by omega, hc⟩) (by omega)
        rw [hnil] at hmem
        cases hmem
      · intro i hi
        obtain ⟨h0, o, ho, hdeps⟩ := mem_ready.1 hi
        have hlt : i < ops.size := (Array.getElem?_eq_some_iff.1 ho).1
        have hil : i < listed.size := by omega
        have hi0 : listed.getD i false = false := by simp [hil] at h0 ⊢; exact h0
        have hlooks : ∀ d ∈ o.looksAt ops, ¬ Pending ops listed d := by
          rintro d hd ⟨j, p, hp, hpd, hjl⟩
          obtain ⟨e, he, hb, hej⟩ := (looksOk_spec hlook ho).2 j p d hp hpd hd
          have := hdeps e he hb
          rw [hej, hjl] at this
          cases this
        have hcount' : ((List.range ops.size).filter fun j => !(listed.setIfInBounds i true).getD j false).length = fuel := by
          have key : ∀ l : List Nat, l.Nodup → i ∈ l → (l.filter fun j => !(listed.setIfInBounds i true).getD j false).length + 1 = (l.filter fun j => !listed.getD j false).length := by
            intro l
            induction l with
            | nil => intro _ h; cases h
            | cons x xs ihl =>
              intro hnd hmem
              rw [List.nodup_cons] at hnd
              by_cases hx : x = i
              · subst hx
                have e1 : (listed.setIfInBounds x true).getD x false = true := by simp [hil]
                have e2 : (xs.filter fun j => !(listed.setIfInBounds x true).getD j false) = xs.filter fun j => !listed.getD j false := by
                  refine List.filter_congr fun j hj => ?_
                  rw [getD_set_ne false (fun e => hnd.1 (by rw [e]; exact hj))]
                rw [List.filter_cons, List.filter_cons, e1, hi0, e2]
                simp
              · have e1 : (listed.setIfInBounds i true).getD x false = listed.getD x false := getD_set_ne false (Ne.symm hx)
                have hmem' : i ∈ xs := by cases hmem with | head => exact absurd rfl hx | tail _ h => exact h
                have := ihl hnd.2 hmem'
                rw [List.filter_cons, List.filter_cons, e1]
                cases listed.getD x false <;> simp <;> simpa using this
          have := key (List.range ops.size) List.nodup_range (List.mem_range.2 hlt)
          omega
        -- the frame at hand and F agree on what the operation looks at
        have heval : ∀ x ∈ o.op.operands, b.eval x = (⟨F c, a.defers⟩ : Act).eval x := by
          intro x hx
          cases x with
          | tmp t =>
            refine hagree t (hlooks t ?_)
            exact List.mem_append_left _ (List.mem_filterMap.2 ⟨.tmp t, by simpa using hx, rfl⟩)
          | const v => rfl
          | global g => rfl
          | func f => rfl
        have hexec : execOp b.eval o = execOp (⟨F c, a.defers⟩ : Act).eval o := execOp_congr o (fun cs bb => Region.noSelect_spec hns i o cs bb ho) heval
        have hwant : Region.wanted o (yielded ops b.tmps) = Region.wanted o (yielded ops (F c)) := by
          unfold Region.wanted
          cases hg : o.guard with
          | none => rfl
          | some gw =>
            obtain ⟨g, want⟩ := gw
            have hy : yielded ops b.tmps g = yielded ops (F c) g := by
              unfold yielded
              cases ht : (ops[g]?).bind (·.dst) with
              | none => rfl
              | some t =>
                have hb := hagree t (hlooks t (by simp [Oper.looksAt, hg, ht]))
                have hsz : b.tmps.size = (F c).size := by rw [hbs, hsize]
                have : b.tmps[t]? = (F c)[t]? := by
                  by_cases h : t < b.tmps.size
                  · have h' : t < (F c).size := Nat.lt_of_lt_of_eq h hsz
                    simp [Array.getD, h, h'] at hb
                    simp [h, h', hb]
                  · rw [Array.getElem?_eq_none (Nat.le_of_not_lt h), Array.getElem?_eq_none (hsz ▸ Nat.le_of_not_lt h)]
                simp only [Option.bind_some, this]
            simp only [hy]
        -- behind the operation
        have hnext : ∀ (v : Value) (w'' : World) (c' : γ), (∀ t, o.dst = some t → ((⟨F c, a.defers⟩ : Act).put o.dst v).tmps.getD t undef = (F c').getD t undef) → (∀ t, ¬ Pending ops (listed.setIfInBounds i true) t → o.dst ≠ some t → (F c').getD t undef = (F c).getD t undef) → S (listed.setIfInBounds i true) c' w'' →
            wpAny P .any ops Q fuel (listed.setIfInBounds i true) (b.put o.dst v) w'' := by
          intro v w'' c' hput hoff hS'
          refine ih _ _ _ c' (by simpa using hls) hcount' ?_ ?_ ?_ hS'
          · cases o.dst <;> exact hbd
          · cases o.dst <;> simpa [Act.put] using hbs
          · intro t hp
            by_cases ht : o.dst = some t
            · have h1 : (b.put o.dst v).tmps.getD t undef = ((⟨F c, a.defers⟩ : Act).put o.dst v).tmps.getD t undef := by
                rw [ht]
                have hsz : b.tmps.size = (F c).size := by rw [hbs, hsize]
                simp only [Act.put, Array.getD_eq_getD_getElem?]
                by_cases h : t < b.tmps.size
                · simp [h, show t < (F c).size by omega]
                · rw [Array.getElem?_eq_none (by simp; omega), Array.getElem?_eq_none (by simp; omega)]
              rw [h1, hput t ht]
            · have h1 : (b.put o.dst v).tmps.getD t undef = b.tmps.getD t undef := by
                cases hdst : o.dst with
                | none => rfl
                | some d =>
                  have hne : d ≠ t := fun e => ht (by rw [hdst, e])
                  simp [Act.put, Array.getElem?_setIfInBounds_ne hne]
              rw [h1, hoff t hp ht]
              refine hagree t ?_
              rintro ⟨j, p, hp', hpd, hjl⟩
              refine hp ⟨j, p, hp', hpd, ?_⟩
              have hji : i ≠ j := by
                intro e; subst e
                rw [ho] at hp'; injection hp' with hp'; subst hp'; exact ht hpd
              rw [getD_set_ne false hji]; exact hjl
        have hstep := hop i o ho listed c w' hls hi hSw
        unfold wpOp
        simp only [ho]
        rw [hwant]
        split
        · rename_i hw
          rw [if_pos hw] at hstep
          refine .inl ?_
          unfold Oper.wp at hstep ⊢
          rw [hexec]
          refine upon_of hstep ?_ ?_
          · rintro v w'' ⟨c', he, hS', hoff⟩
            exact hnext v w'' c' he.2 hoff hS'
          · rintro b' hb' w'' ⟨c', he, _⟩
            exact hb' he.1
        · rename_i hw
          rw [if_neg hw] at hstep
          exact hnext undef w' c (fun _ _ => by rw [hstep.1]) (fun _ _ _ => rfl) hstep.2
  refine main ops.size (Array.replicate ops.size false) a w.drew c0 (by simp) ?_ rfl rfl hsame hS
  rw [List.filter_eq_self.2]
  · simp
  · intro i hi
    simp at hi
    simp [hi]
theorem wp_region_fix {γ : Type} {id : Nat} {a : Act} {w : World} {Q : Exit → Act → World → Prop} (hm : P.follows .mixedOrders = true) (hns : Region.noSelect ops = true) (hlook : looksOk ops = true)
    (F : γ → Array Value) (S : Array Bool → γ → World → Prop) (c0 : γ) (hS : S (Array.replicate ops.size false) c0 w.drew)
    (hsize : ∀ c, (F c).size = a.tmps.size)
    (hsame : ∀ t, ¬ Pending ops (Array.replicate ops.size false) t → a.tmps.getD t undef = (F c0).getD t undef)
    (hop : ∀ (i : Nat) (o : Oper), ops[i]? = some o → ∀ listed c w', listed.size = ops.size → i ∈ Region.ready .any ops listed → S listed c w' →
      if Region.wanted o (yielded ops (F c)) = true then
        o.wp P ⟨F c, a.defers⟩ w' (fun a' w'' => ∃ c', a' = ⟨F c', a.defers⟩ ∧ S (listed.setIfInBounds i true) c' w'' ∧ ∀ t, ¬ Pending ops (listed.setIfInBounds i true) t → o.dst ≠ some t → (F c').getD t undef = (F c).getD t undef) (fun _ _ _ => False)
      else (⟨F c, a.defers⟩ : Act).put o.dst undef = ⟨F c, a.defers⟩ ∧ S (listed.setIfInBounds i true) c w')
    (hQ : ∀ listed c w', (∀ i, i < ops.size → listed.getD i false = true) → S listed c w' → Q .normal ⟨F c, a.defers⟩ w') : (Code.region id ops true).wp P Q a w := by
  refine wp_region_fixR hm hns hlook F S c0 hS hsize hsame ?_ hQ
  intro i o ho listed c w' h1 h2 h3
  have h := hop i o ho listed c w' h1 h2 h3
  split
  · rename_i hw
    rw [if_pos hw] at h
    unfold Oper.wp at h ⊢
    refine upon_of h ?_ ?_
    · rintro v w'' ⟨c', e, s, b⟩
      exact ⟨c', ⟨by rw [e], fun _ _ => by rw [e]⟩, s, b⟩
    · rintro b hb w'' ⟨c', e, _⟩
      exact hb (by rw [e])
  · rename_i hw
    rw [if_neg hw] at h
    exact h
def Fix (P : Program) (ops : Array Oper) (S : World → Prop) (F : Array Value) (D : List Deferred) (o : Oper) : Prop :=
  if Region.wanted o (yielded ops F) = true then ∀ w, S w → o.wp P ⟨F, D⟩ w (fun a' w' => a' = ⟨F, D⟩ ∧ S w' ∧ Below w.heap.size w w') (fun _ _ _ => False)
  else (⟨F, D⟩ : Act).put o.dst undef = ⟨F, D⟩
theorem Fix.of {S : World → Prop} {F : Array Value} {D : List Deferred} {o : Oper} (hg : o.guard = none)
    (h : ∀ w, S w → o.wp P ⟨F, D⟩ w (fun a' w' => a' = ⟨F, D⟩ ∧ S w' ∧ Below w.heap.size w w') (fun _ _ _ => False)) : Fix P ops S F D o := by
  unfold Fix
  rw [if_pos (by simp [Region.wanted, hg])]
  exact h
theorem Fix.on {S : World → Prop} {F : Array Value} {D : List Deferred} {o : Oper} (hg : Region.wanted o (yielded ops F) = true)
    (h : ∀ w, S w → o.wp P ⟨F, D⟩ w (fun a' w' => a' = ⟨F, D⟩ ∧ S w' ∧ Below w.heap.size w w') (fun _ _ _ => False)) : Fix P ops S F D o := by
  unfold Fix
  rw [if_pos hg]
  exact h
theorem Fix.off {S : World → Prop} {F : Array Value} {D : List Deferred} {o : Oper} (hg : Region.wanted o (yielded ops F) = false)
    (h : (⟨F, D⟩ : Act).put o.dst undef = ⟨F, D⟩) : Fix P ops S F D o := by
  unfold Fix
  rw [if_neg (by rw [hg]; simp)]
  exact h
@[reducible] def FixL (P : Program) (ops : Array Oper) (S : World → Prop) (F : Array Value) (D : List Deferred) (skip : Nat → Bool) : Nat → List Oper → Prop
  | _, [] => True
  | k, o :: os => (skip k = true ∨ Fix P ops S F D o) ∧ FixL P ops S F D skip (k + 1) os
theorem FixL.get {S : World → Prop} {F : Array Value} {D : List Deferred} {skip : Nat → Bool} : ∀ (l : List Oper) (k : Nat), FixL P ops S F D skip k l → ∀ (i : Nat) (o : Oper), l[i]? = some o → skip (k + i) = false → Fix P ops S F D o
  | [], _, _, i, o, h, _ => by simp at h
  | p :: l, k, hl, 0, o, h, hs => by
    simp at h; subst h
    rcases hl.1 with h1 | h1
    · simp [h1] at hs
    · exact h1
  | p :: l, k, hl, i + 1, o, h, hs => FixL.get l (k + 1) hl.2 i o (by simpa using h) (by rw [← hs]; congr 1; omega)
def FixB (P : Program) (ops : Array Oper) (S : World → Prop) (F : Array Value) (D : List Deferred) (o : Oper) : Prop :=
  if Region.wanted o (yielded ops F) = true then ∀ w, S w → o.wp P ⟨F, D⟩ w (fun a' w' => a' = ⟨F, D⟩ ∧ Below w.heap.size w w') (fun _ _ _ => False)
  else (⟨F, D⟩ : Act).put o.dst undef = ⟨F, D⟩
theorem FixB.of {S : World → Prop} {F : Array Value} {D : List Deferred} {o : Oper} (hg : o.guard = none)
    (h : ∀ w, S w → o.wp P ⟨F, D⟩ w (fun a' w' => a' = ⟨F, D⟩ ∧ Below w.heap.size w w') (fun _ _ _ => False)) : FixB P ops S F D o := by
  unfold FixB
  rw [if_pos (by simp [Region.wanted, hg])]
  exact h
theorem FixB.on {S : World → Prop} {F : Array Value} {D : List Deferred} {o : Oper} (hg : Region.wanted o (yielded ops F) = true)
    (h : ∀ w, S w → o.wp P ⟨F, D⟩ w (fun a' w' => a' = ⟨F, D⟩ ∧ Below w.heap.size w w') (fun _ _ _ => False)) : FixB P ops S F D o := by
  unfold FixB
  rw [if_pos hg]
  exact h
theorem FixB.off {S : World → Prop} {F : Array Value} {D : List Deferred} {o : Oper} (hg : Region.wanted o (yielded ops F) = false)
    (h : (⟨F, D⟩ : Act).put o.dst undef = ⟨F, D⟩) : FixB P ops S F D o := by
  unfold FixB
  rw [if_neg (by rw [hg]; simp)]
  exact h
theorem FixB.fix {S : World → Prop} {F : Array Value} {D : List Deferred} {o : Oper} (hst : ∀ w' w'', S w' → Below w'.heap.size w' w'' → S w'') (h : FixB P ops S F D o) : Fix P ops S F D o := by
  unfold FixB at h
  unfold Fix
  split
  · rename_i hw
    rw [if_pos hw] at h
    intro w hS
    have h' := h w hS
    unfold Oper.wp at h' ⊢
    refine upon_of (K' := fun a' w' => a' = ⟨F, D⟩ ∧ Below w.heap.size w w') h' ?_ ?_
    · rintro v w'' ⟨e, b⟩
      exact ⟨e, hst _ _ hS b, b⟩
    · rintro b hb w'' ⟨e, _⟩
      exact hb (by rw [e])
  · rename_i hw
    rw [if_neg hw] at h
    exact h
@[reducible] def FixBL (P : Program) (ops : Array Oper) (S : World → Prop) (F : Array Value) (D : List Deferred) (skip : Nat → Bool) : Nat → List Oper → Prop
  | _, [] => True
  | k, o :: os => (skip k = true ∨ FixB P ops S F D o) ∧ FixBL P ops S F D skip (k + 1) os
theorem FixBL.toL {S : World → Prop} {F : Array Value} {D : List Deferred} {skip : Nat → Bool} (hst : ∀ w' w'', S w' → Below w'.heap.size w' w'' → S w'') : ∀ (l : List Oper) (k : Nat), FixBL P ops S F D skip k l → FixL P ops S F D skip k l
  | [], _, _ => trivial
  | _ :: l, k, h => ⟨h.1.imp id (FixB.fix hst), FixBL.toL hst l (k + 1) h.2⟩
def putAll : List Oper → List Value → Array Value → Array Value
  | o :: os, v :: vs, A => putAll os vs (match o.dst with | some d => A.setIfInBounds d v | none => A)
  | _, _, A => A
theorem size_putAll : ∀ (os : List Oper) (vs : List Value) (A : Array Value), (putAll os vs A).size = A.size
  | [], _, _ => by simp [putAll]
  | _ :: _, [], _ => by simp [putAll]
  | o :: os, v :: vs, A => by
    rw [putAll, size_putAll os vs]
    cases o.dst <;> simp
theorem putAll_same : ∀ (os : List Oper) (vs : List Value) (A : Array Value) (t : Nat), (∀ o ∈ os, o.dst ≠ some t) → (putAll os vs A).getD t undef = A.getD t undef
  | [], _, _, _, _ => by simp [putAll]
  | _ :: _, [], _, _, _ => by simp [putAll]
  | o :: os, v :: vs, A, t, h => by
    rw [putAll, putAll_same os vs _ t fun p hp => h p (List.mem_cons_of_mem _ hp)]
    have := h o List.mem_cons_self
    cases hd : o.dst with
    | none => rfl
    | some d =>
      have hne : d ≠ t := fun e => this (by rw [hd, e])
      simp [Array.getElem?_setIfInBounds_ne hne]
theorem not_pending {t : Nat} (h : ¬ Pending ops (Array.replicate ops.size false) t) : ∀ o ∈ ops.toList, o.dst ≠ some t := by
  intro o ho hd
  obtain ⟨j, hj, he⟩ := List.getElem_of_mem ho
  have hj' : j < ops.size := by simpa using hj
  refine h ⟨j, o, ?_, hd, ?_⟩
  · rw [Array.getElem?_eq_getElem hj']; simpa using he
  · simp [hj']
theorem wp_region_same {id : Nat} {a : Act} {w : World} {Q : Exit → Act → World → Prop} (D : List Deferred) (hD : a.defers = D) (hm : P.follows .mixedOrders = true) (hns : Region.noSelect ops = true) (hlook : looksOk ops = true)
    (S : World → Prop) (F : Array Value) (vs : List Value) (hF : putAll ops.toList vs a.tmps = F) (hS : S w.drew)
    (hop : FixL P ops S F D (fun _ => false) 0 ops.toList)
    (hQ : ∀ w', S w' → Below w.heap.size w w' → Q .normal ⟨F, D⟩ w') : (Code.region id ops true).wp P Q a w := by
  subst hD
  refine wp_region_fix hm hns hlook (γ := Unit) (fun _ => F) (fun _ _ w' => S w' ∧ Below w.heap.size w w') () ⟨hS, (Below.refl _ _).drew⟩ (fun _ => by rw [← hF, size_putAll]) ?_ ?_ ?_
  · intro t ht
    rw [← hF, putAll_same _ _ _ _ (not_pending ht)]
  · intro i o ho listed _ w' _ _ ⟨hS', hb'⟩
    have h := FixL.get _ _ hop i o (by simpa using ho) rfl
    unfold Fix at h
    split
    · rename_i hw
      rw [if_pos hw] at h
      have h' := h w' hS'
      unfold Oper.wp at h' ⊢
      refine upon_of (K' := fun a' w'' => a' = ⟨F, a.defers⟩ ∧ S w'' ∧ Below w'.heap.size w' w'') h' ?_ ?_
      · rintro v w'' ⟨e, s, b⟩
        exact ⟨(), e, ⟨s, hb'.trans (b.mono hb'.size)⟩, fun _ _ _ => rfl⟩
      · rintro b hb w'' ⟨e, _⟩
        exact hb (by rw [e])
    · rename_i hw
      rw [if_neg hw] at h
      exact ⟨h, hS', hb'⟩
  · intro _ _ w' _ hS'
    exact hQ w' hS'.1 hS'.2
theorem wp_region_boxG (G : Nat → Value) {id : Nat} {a : Act} {w : World} {Q : Exit → Act → World → Prop} (D : List Deferred) (hD : a.defers = D) (hm : P.follows .mixedOrders = true) (hns : Region.noSelect ops = true) (hlook : looksOk ops = true)
    (S : World → Prop) (F : Nat → Array Value) (vs : Nat → List Value) (hF : ∀ q, putAll ops.toList (vs q) a.tmps = F q) (hS : S w.drew)
    (ia is d : Nat) (oa os : Oper) (hoa : ops[ia]? = some oa) (hos : ops[is]? = some os) (T : TypeId) (z res : Array Value) (hia : (ops[ia]?).map (·.dst) = some (some d)) (his : (ops[is]?).map (fun o => o.after.any fun e => Region.binds .any e && e.on == ia) = some true)
    (hne : ia ≠ is) (hq' : ∀ q q', F q' = (F q).setIfInBounds d (G q'))
    (hop : ∀ q, FixL P ops S (F q) D (fun i => i == ia || i == is) 0 ops.toList)
    (halloc : ∀ q, Region.wanted oa (yielded ops (F q)) = true ∧ ∀ w', S w' → oa.wp P ⟨F q, D⟩ w' (fun a' w'' => a' = ⟨F w'.heap.size, D⟩ ∧ w'' = w'.alloc (.cells z T) ∧ S w'') (fun _ _ _ => False))
    (hstore : ∀ q, Region.wanted os (yielded ops (F q)) = true ∧ ∀ w', S w' → w.heap.size ≤ q → Blk w' q T z → os.wp P ⟨F q, D⟩ w' (fun a' w'' => a' = ⟨F q, D⟩ ∧ S w'' ∧ Blk w'' q T res ∧ Below w.heap.size w' w'') (fun _ _ _ => False))
    (hQ : ∀ q w', S w' → w.heap.size ≤ q → Blk w' q T res → Below w.heap.size w w' → Q .normal ⟨F q, D⟩ w') : (Code.region id ops true).wp P Q a w := by
  have hq : ∀ q q' t, t ≠ d → (F q').getD t undef = (F q).getD t undef := by
    intro q q' t ht
    rw [hq' q q']
    simp [Array.getElem?_setIfInBounds_ne (Ne.symm ht)]
  subst hD
  have hial : ia < ops.size := by
    cases h : ops[ia]? with
    | none => rw [h] at hia; cases hia
    | some o => exact (Array.getElem?_eq_some_iff.1 h).1
  have hisl : is < ops.size := by
    cases h : ops[is]? with
    | none => rw [h] at his; cases his
    | some o => exact (Array.getElem?_eq_some_iff.1 h).1
  refine wp_region_fix hm hns hlook F (fun listed q w' => S w' ∧ Below w.heap.size w w' ∧ (listed.getD is false = true → listed.getD ia false = true) ∧ (listed.getD ia false = true → w.heap.size ≤ q) ∧
      (listed.getD ia false = true → listed.getD is false = false → Blk w' q T z) ∧ (listed.getD is false = true → Blk w' q T res)) 0 ?_ (fun q => by rw [← hF q, size_putAll]) ?_ ?_ ?_
  · refine ⟨hS, (Below.refl _ _).drew, ?_, ?_, ?_, ?_⟩ <;> simp [hial, hisl]
  · intro t ht
    rw [← hF 0, putAll_same _ _ _ _ (not_pending ht)]
  · intro i o ho listed q w' hls hready ⟨hS', hb', hdep, hlow, hz, hres⟩
    have hlt : i < ops.size := (Array.getElem?_eq_some_iff.1 ho).1
    have hil : i < listed.size := by omega
    by_cases h1 : i = ia
    · subst h1
      obtain rfl : oa = o := by rw [hoa] at ho; injection ho
      obtain ⟨hw, hrun⟩ := halloc q
      have hdst : oa.dst = some d := by rw [ho] at hia; simpa using hia
      have hi0 : listed.getD i false = false := by
        obtain ⟨h0, _⟩ := mem_ready.1 hready
        simp [hil] at h0 ⊢; exact h0
      rw [if_pos hw]
      have h' := hrun w' hS'
      unfold Oper.wp at h' ⊢
      refine upon_of (K' := fun a' w'' => a' = ⟨F w'.heap.size, a.defers⟩ ∧ w'' = w'.alloc (.cells z T) ∧ S w'') h' ?_ ?_
      · rintro v w'' ⟨e, rfl, s⟩
        have hb'' : Below w.heap.size w (w'.alloc (.cells z T)) := hb'.alloc hb'.size _
        have his0 : listed.getD is false = false := by
          cases hc : listed.getD is false with
          | false => rfl
          | true => rw [hdep hc] at hi0; cases hi0
        have his1 : (listed.setIfInBounds i true).getD is false = false := by rw [getD_set_ne false hne]; exact his0
        refine ⟨w'.heap.size, e, ⟨s, hb'', ?_, ?_, ?_, ?_⟩, ?_⟩
        · intro h; rw [his1] at h; cases h
        · intro _; exact hb'.size
        · intro _ _; exact Blk.new _ _ _
        · intro h; rw [his1] at h; cases h
        · intro t _ ht
          exact hq _ _ t (fun e => ht (by rw [hdst, e]))
      · rintro b hb w'' ⟨e, _⟩
        exact hb (by rw [e])
    · have hia1 : (listed.setIfInBounds i true).getD ia false = listed.getD ia false := getD_set_ne false h1
      by_cases h2 : i = is
      · subst h2
        obtain rfl : os = o := by rw [hos] at ho; injection ho
        obtain ⟨hw, hrun⟩ := hstore q
        obtain ⟨h0, o', ho', hdeps⟩ := mem_ready.1 hready
        rw [hos] at ho'; injection ho' with ho'; subst ho'
        have hi0 : listed.getD i false = false := by simp [hil] at h0 ⊢; exact h0
        have hiad : listed.getD ia false = true := by
          rw [ho] at his
          simp only [Option.map_some, Option.some.injEq] at his
          obtain ⟨k, hk, hb⟩ := Array.any_eq_true.1 his
          simp only [Bool.and_eq_true, beq_iff_eq] at hb
          have := hdeps _ (Array.getElem_mem hk) hb.1
          rwa [hb.2] at this
        rw [if_pos hw]
        have h' := hrun w' hS' (hlow hiad) (hz hiad hi0)
        unfold Oper.wp at h' ⊢
        refine upon_of (K' := fun a' w'' => a' = ⟨F q, a.defers⟩ ∧ S w'' ∧ Blk w'' q T res ∧ Below w.heap.size w' w'') h' ?_ ?_
        · rintro v w'' ⟨e, s, b, bb⟩
          refine ⟨q, e, ⟨s, hb'.trans bb, ?_, ?_, ?_, ?_⟩, fun _ _ _ => rfl⟩
          · intro _; rw [hia1]; exact hiad
          · intro _; exact hlow hiad
          · intro _ h; simp [hil] at h
          · intro _; exact b
        · rintro b hb w'' ⟨e, _⟩
          exact hb (by rw [e])
      · have his1 : (listed.setIfInBounds i true).getD is false = listed.getD is false := getD_set_ne false h2
        have h := FixL.get _ _ (hop q) i o (by simpa using ho) (by simp [h1, h2])
        unfold Fix at h
        split
        · rename_i hw
          rw [if_pos hw] at h
          have h' := h w' hS'
          unfold Oper.wp at h' ⊢
          refine upon_of (K' := fun a' w'' => a' = ⟨F q, a.defers⟩ ∧ S w'' ∧ Below w'.heap.size w' w'') h' ?_ ?_
          · rintro v w'' ⟨e, s, b⟩
            refine ⟨q, e, ⟨s, hb'.trans (b.mono hb'.size), ?_, ?_, ?_, ?_⟩, fun _ _ _ => rfl⟩
            · rw [his1, hia1]; exact hdep
            · rw [hia1]; exact hlow
            · rw [his1, hia1]; exact fun x y => (hz x y).below b (hz x y).lt
            · rw [his1]; exact fun x => (hres x).below b (hres x).lt
          · rintro b hb w'' ⟨e, _⟩
            exact hb (by rw [e])
        · rename_i hw
          rw [if_neg hw] at h
          refine ⟨h, hS', hb', ?_, ?_, ?_, ?_⟩
          · rw [his1, hia1]; exact hdep
          · rw [hia1]; exact hlow
          · rw [his1, hia1]; exact hz
          · rw [his1]; exact hres
  · intro listed q w' hall ⟨hS', hb', _, hlow, _, hres⟩
    exact hQ q w' hS' (hlow (hall ia hial)) (hres (hall is hisl)) hb'
theorem wp_region_val {id : Nat} {a : Act} {w : World} {Q : Exit → Act → World → Prop} (D : List Deferred) (hD : a.defers = D) (hm : P.follows .mixedOrders = true) (hns : Region.noSelect ops = true) (hlook : looksOk ops = true)
    (S : World → Prop) (R : Value → World → Prop) (F : Value → Array Value) (vs : Value → List Value) (hF : ∀ v, putAll ops.toList (vs v) a.tmps = F v) (hS : S w.drew)
    (iv : Nat) (ov : Oper) (hov : ops[iv]? = some ov)
    (hpend : ∀ v v' t, (F v').getD t undef ≠ (F v).getD t undef → ov.dst = some t ∨ ∃ (j : Nat) (o : Oper), ops[j]? = some o ∧ o.dst = some t ∧ j ≠ iv ∧ (o.after.any fun e => Region.binds .any e && e.on == iv) = true)
    (hR : ∀ v w' w'', R v w' → Below w'.heap.size w' w'' → R v w'')
    (hop : ∀ v, FixL P ops S (F v) D (fun i => i == iv) 0 ops.toList)
    (hval : ∀ v, Region.wanted ov (yielded ops (F v)) = true ∧ ∀ w', S w' → ov.wp P ⟨F v, D⟩ w' (fun a' w'' => ∃ v', (a'.defers = D ∧ ∀ t, ov.dst = some t → a'.tmps.getD t undef = (F v').getD t undef) ∧ S w'' ∧ R v' w'' ∧ Below w'.heap.size w' w'') (fun _ _ _ => False))
    (hQ : ∀ v w', S w' → R v w' → Below w.heap.size w w' → Q .normal ⟨F v, D⟩ w') : (Code.region id ops true).wp P Q a w := by
  subst hD
  have hivl : iv < ops.size := (Array.getElem?_eq_some_iff.1 hov).1
  refine wp_region_fixR hm hns hlook F (fun listed v w' => S w' ∧ Below w.heap.size w w' ∧ (listed.getD iv false = true → R v w') ∧
      ∀ (j : Nat) (o : Oper), ops[j]? = some o → (o.after.any fun e => Region.binds .any e && e.on == iv) = true → listed.getD j false = true → listed.getD iv false = true) undef ?_ (fun v => by rw [← hF v, size_putAll]) ?_ ?_ ?_
  · refine ⟨hS, (Below.refl _ _).drew, fun h => ?_, fun j o ho _ h => ?_⟩
    · simp [hivl] at h
    · have hj : j < ops.size := (Array.getElem?_eq_some_iff.1 ho).1
      simp [hj] at h
  · intro t ht
    rw [← hF undef, putAll_same _ _ _ _ (not_pending ht)]
  · intro i o ho listed v w' hls hready ⟨hS', hb', hr', hdep⟩
    have hlt : i < ops.size := (Array.getElem?_eq_some_iff.1 ho).1
    have hil : i < listed.size := by omega
    have hivs : iv < listed.size := by omega
    obtain ⟨h0, o', ho', hdeps⟩ := mem_ready.1 hready
    rw [ho] at ho'; injection ho' with ho'; subst ho'
    have hi0 : listed.getD i false = false := by simp [hil] at h0 ⊢; exact h0
    have hdep' : ∀ (j : Nat) (p : Oper), ops[j]? = some p → (p.after.any fun e => Region.binds .any e && e.on == iv) = true → (listed.setIfInBounds i true).getD j false = true → (listed.setIfInBounds i true).getD iv false = true := by
      intro j p hp ha hj
      by_cases e : i = iv
      · subst e; simp [hil]
      · rw [getD_set_ne false e]
        by_cases ej : i = j
        · subst ej
          rw [ho] at hp; injection hp with hp; subst hp
          obtain ⟨k, hk, hb⟩ := Array.any_eq_true.1 ha
          simp only [Bool.and_eq_true, beq_iff_eq] at hb
          have := hdeps _ (Array.getElem_mem hk) hb.1
          rwa [hb.2] at this
        · rw [getD_set_ne false ej] at hj
          exact hdep j p hp ha hj
    by_cases h1 : i = iv
    · subst h1
      obtain rfl : ov = o := by rw [hov] at ho; injection ho
      obtain ⟨hw, hrun⟩ := hval v
      rw [if_pos hw]
      have h' := hrun w' hS'
      unfold Oper.wp at h' ⊢
      refine upon_of (K' := fun a' w'' => ∃ v', (a'.defers = a.defers ∧ ∀ t, ov.dst = some t → a'.tmps.getD t undef = (F v').getD t undef) ∧ S w'' ∧ R v' w'' ∧ Below w'.heap.size w' w'') h' ?_ ?_
      · rintro u w'' ⟨v', e, s, r, b⟩
        refine ⟨v', e, ⟨s, hb'.trans (b.mono hb'.size), fun _ => r, hdep'⟩, fun t hp hd => ?_⟩
        refine Classical.byContradiction fun hne => ?_
        rcases hpend v v' t hne with h | ⟨j, p, hp1, hp2, hp3, hp4⟩
        · exact hd h
        · refine hp ⟨j, p, hp1, hp2, ?_⟩
          rw [getD_set_ne false (Ne.symm hp3)]
          cases hc : listed.getD j false with
          | false => rfl
          | true => have := hdep j p hp1 hp4 hc; rw [hi0] at this; cases this
      · rintro b hb w'' ⟨v', e, _⟩
        exact hb e.1
    · have hiv : (listed.setIfInBounds i true).getD iv false = listed.getD iv false := getD_set_ne false h1
      have h := FixL.get _ _ (hop v) i o (by simpa using ho) (by simp [h1])
      unfold Fix at h
      split
      · rename_i hw
        rw [if_pos hw] at h
        have h' := h w' hS'
        unfold Oper.wp at h' ⊢
        refine upon_of (K' := fun a' w'' => a' = ⟨F v, a.defers⟩ ∧ S w'' ∧ Below w'.heap.size w' w'') h' ?_ ?_
        · rintro u w'' ⟨e, s, b⟩
          exact ⟨v, ⟨by rw [e], fun _ _ => by rw [e]⟩, ⟨s, hb'.trans (b.mono hb'.size), fun hh => hR _ _ _ (hr' (by rwa [hiv] at hh)) b, hdep'⟩, fun _ _ _ => rfl⟩
        · rintro b hb w'' ⟨e, _⟩
          exact hb (by rw [e])
      · rename_i hw
        rw [if_neg hw] at h
        exact ⟨h, hS', hb', fun hh => hr' (by rwa [hiv] at hh), hdep'⟩
  · intro listed v w' hall ⟨hS', hb', hr', _⟩
    exact hQ v w' hS' (hr' (hall iv hivl)) hb'
def lastOk (ops : Array Oper) : Bool :=
  (List.range (ops.size - 1)).all fun j => (List.range ops.size).any fun k => match ops[k]? with
    | none => false
    | some o => o.after.any fun e => Region.binds .any e && e.on == j
theorem lastOk_spec {ops : Array Oper} (h : lastOk ops = true) {j : Nat} (hj : j + 1 < ops.size) : ∃ (k : Nat) (o : Oper), ops[k]? = some o ∧ ∃ e ∈ o.after, Region.binds .any e = true ∧ e.on = j := by
  have h1 := List.all_eq_true.1 h j (List.mem_range.2 (by omega))
  obtain ⟨k, _, hk⟩ := List.any_eq_true.1 h1
  cases ho : ops[k]? with
  | none => simp [ho] at hk
  | some o =>
    simp only [ho] at hk
    obtain ⟨i, hi, hb⟩ := Array.any_eq_true.1 hk
    simp only [Bool.and_eq_true, beq_iff_eq] at hb
    exact ⟨k, o, ho, o.after[i], Array.getElem_mem hi, hb.1, hb.2⟩
theorem wp_region_last {id : Nat} {a : Act} {w : World} {Q : Exit → Act → World → Prop} (D : List Deferred) (hD : a.defers = D) (hm : P.follows .mixedOrders = true) (hns : Region.noSelect ops = true) (hlook : looksOk ops = true) (hlast : lastOk ops = true)
    (S S' : World → Prop) (F : Array Value) (vs : List Value) (hF : putAll ops.toList vs a.tmps = F) (hS : S w.drew)
    (is : Nat) (os : Oper) (hos : ops[is]? = some os) (his : is + 1 = ops.size)
    (hop : FixL P ops S F D (fun i => i == is) 0 ops.toList)
    (hstore : Region.wanted os (yielded ops F) = true ∧ ∀ w', S w' → os.wp P ⟨F, D⟩ w' (fun a' w'' => a' = ⟨F, D⟩ ∧ S' w'') (fun _ _ _ => False))
    (hQ : ∀ w', S' w' → Q .normal ⟨F, D⟩ w') : (Code.region id ops true).wp P Q a w := by
  subst hD
  refine wp_region_fix hm hns hlook (γ := Unit) (fun _ => F) (fun listed _ w' => (listed.getD is false = false → S w') ∧ (listed.getD is false = true → S' w') ∧
      ∀ (k : Nat) (o : Oper), ops[k]? = some o → listed.getD k false = true → ∀ e ∈ o.after, Region.binds .any e = true → listed.getD e.on false = true) () ?_ (fun _ => by rw [← hF, size_putAll]) ?_ ?_ ?_
  · refine ⟨fun _ => hS, fun h => ?_, fun k o ho h => ?_⟩
    · simp [show is < ops.size by omega] at h
    · have hk : k < ops.size := (Array.getElem?_eq_some_iff.1 ho).1
      simp [hk] at h
  · intro t ht
    rw [← hF, putAll_same _ _ _ _ (not_pending ht)]
  · intro i o ho listed _ w' hls hready ⟨hS0, hS1, hdep⟩
    have hlt : i < ops.size := (Array.getElem?_eq_some_iff.1 ho).1
    have hil : i < listed.size := by omega
    obtain ⟨h0, o', ho', hdeps⟩ := mem_ready.1 hready
    rw [ho] at ho'; injection ho' with ho'; subst ho'
    have hi0 : listed.getD i false = false := by simp [hil] at h0 ⊢; exact h0
    have hdep' : ∀ (k : Nat) (p : Oper), ops[k]? = some p → (listed.setIfInBounds i true).getD k false = true → ∀ e ∈ p.after, Region.binds .any e = true → (listed.setIfInBounds i true).getD e.on false = true := by
      intro k p hp hk e he hb
      have base : listed.getD e.on false = true := by
        by_cases ek : i = k
        · subst ek
          rw [ho] at hp; injection hp with hp; subst hp
          exact hdeps e he hb
        · rw [getD_set_ne false ek] at hk
          exact hdep k p hp hk e he hb
      by_cases ee : i = e.on
      · rw [← ee] at base; rw [hi0] at base; cases base
      · rw [getD_set_ne false ee]; exact base
    by_cases h1 : i = is
    · subst h1
      obtain rfl : os = o := by rw [hos] at ho; injection ho
      obtain ⟨hw, hrun⟩ := hstore
      rw [if_pos hw]
      have h' := hrun w' (hS0 hi0)
      unfold Oper.wp at h' ⊢
      refine upon_of (K' := fun a' w'' => a' = ⟨F, a.defers⟩ ∧ S' w'') h' ?_ ?_
      · rintro v w'' ⟨e, s⟩
        refine ⟨(), e, ⟨fun h => ?_, fun _ => s, hdep'⟩, fun _ _ _ => rfl⟩
        simp [hil] at h
      · rintro b hb w'' ⟨e, _⟩
        exact hb (by rw [e])
    · have his1 : (listed.setIfInBounds i true).getD is false = listed.getD is false := getD_set_ne false h1
      have hisf : listed.getD is false = false := by
        cases hc : listed.getD is false with
        | false => rfl
        | true =>
          exfalso
          have key : ∀ m j, j + m = is → listed.getD j false = true := by
            intro m
            induction m using Nat.strongRecOn with
            | ind m ih =>
              intro j hj
              by_cases hm0 : m = 0
              · have : j = is := by omega
                subst this; exact hc
              · obtain ⟨k, p, hp, e, he, hb, hon⟩ := lastOk_spec hlast (j := j) (by omega)
                have hkj := (looksOk_spec hlook hp).1 e he hb
                have hks : k < ops.size := (Array.getElem?_eq_some_iff.1 hp).1
                have hk := ih (is - k) (by omega) k (by omega)
                have := hdep k p hp hk e he hb
                rwa [hon] at this
          have := key (is - i) i (by omega)
          rw [hi0] at this; cases this
      have h := FixL.get _ _ hop i o (by simpa using ho) (by simp [h1])
      unfold Fix at h
      split
      · rename_i hw
        rw [if_pos hw] at h
        have h' := h w' (hS0 hisf)
        unfold Oper.wp at h' ⊢
        refine upon_of (K' := fun a' w'' => a' = ⟨F, a.defers⟩ ∧ S w'' ∧ Below w'.heap.size w' w'') h' ?_ ?_
        · rintro v w'' ⟨e, s, _⟩
          exact ⟨(), e, ⟨fun _ => s, fun h => (by rw [his1, hisf] at h; cases h), hdep'⟩, fun _ _ _ => rfl⟩
        · rintro b hb w'' ⟨e, _⟩
          exact hb (by rw [e])
      · rename_i hw
        rw [if_neg hw] at h
        exact ⟨h, fun _ => hS0 hisf, fun h => (by rw [his1, hisf] at h; cases h), hdep'⟩
  · intro listed _ w' hall ⟨_, hS1, _⟩
    exact hQ w' (hS1 (hall is (by omega)))
end
end Go.Proofs.YtahamedecibmnaaGreat

namespace Go.Proofs.YtahamedecibmnaaGreat
open Go.RowKit
set_option maxRecDepth 100000
theorem grown_set (w : World) (a : Addr) (u : Value) : w.grownBy (w.setCell a u) (some a.block) :=
  ⟨rfl, rfl, rfl, by simp [World.setCell], fun k hk hne => Below.heap_setCell w a u k (fun e => hne (by rw [e]))⟩
theorem grown_trans {a b c : World} {row : Option Nat} (h : a.grownBy b row) (k : b.grownBy c row) : a.grownBy c row :=
  ⟨k.os.trans h.os, k.tape.trans h.tape, k.output.trans h.output, Nat.le_trans h.size k.size, fun i hi hne => (k.block i (Nat.lt_of_lt_of_le hi h.size) hne).trans (h.block i hi hne)⟩
theorem grown_below {a b : World} (h : Below a.heap.size a b) (row : Option Nat) : a.grownBy b row :=
  ⟨h.os, h.tape, h.output, h.size, fun i hi _ => h.block i hi⟩
end Go.Proofs.YtahamedecibmnaaGreat
