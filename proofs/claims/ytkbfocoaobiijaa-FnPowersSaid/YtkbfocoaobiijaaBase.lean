/- Plain words and lemmas for maps of five points as values, blocks of memory and the ends of walks; no conditions. -/
import Derived.WalkKit
import Derived.Below
import Derived.Lib.Hide
import Derived.Deep.LoopGhost
import Derived.Deep.Draws
namespace Go.Proofs.Ytkbfocoaobiijaa
open Go.RowKit

abbrev I (n : Int) : Value := .int .i64 n

structure M where
  p : Int
  t0 : Int
  t1 : Int
  t2 : Int
  t3 : Int
  t4 : Int
deriving DecidableEq

def M.at (m : M) : Nat → Int
  | 0 => m.t0 | 1 => m.t1 | 2 => m.t2 | 3 => m.t3 | 4 => m.t4 | _ => 0
def M.mk' (p : Int) (f : Nat → Int) : M := ⟨p, f 0, f 1, f 2, f 3, f 4⟩
abbrev mt (m : M) : Array Value := #[I m.t0, I m.t1, I m.t2, I m.t3, I m.t4]
abbrev mc (m : M) : Array Value := #[I m.p, I m.t0, I m.t1, I m.t2, I m.t3, I m.t4]

theorem five {P : Nat → Prop} (h0 : P 0) (h1 : P 1) (h2 : P 2) (h3 : P 3) (h4 : P 4) : ∀ k, k < 5 → P k := by
  intro k hk
  match k, hk with
  | 0, _ => exact h0
  | 1, _ => exact h1
  | 2, _ => exact h2
  | 3, _ => exact h3
  | 4, _ => exact h4

theorem at_mk' (p : Int) (f : Nat → Int) {k : Nat} (hk : k < 5) : (M.mk' p f).at k = f k :=
  five (P := fun k => (M.mk' p f).at k = f k) rfl rfl rfl rfl rfl k hk
theorem p_mk' (p : Int) (f : Nat → Int) : (M.mk' p f).p = p := rfl
theorem M.ext5 {a b : M} (hp : a.p = b.p) (h : ∀ k, k < 5 → a.at k = b.at k) : a = b := by
  obtain ⟨p, a0, a1, a2, a3, a4⟩ := a
  obtain ⟨q, b0, b1, b2, b3, b4⟩ := b
  have h0 := h 0 (by decide); have h1 := h 1 (by decide); have h2 := h 2 (by decide); have h3 := h 3 (by decide); have h4 := h 4 (by decide)
  simp only [M.at] at *
  subst hp h0 h1 h2 h3 h4
  rfl
theorem mk'_congr {p : Int} {f g : Nat → Int} (h : ∀ k, k < 5 → f k = g k) : M.mk' p f = M.mk' p g :=
  M.ext5 rfl fun k hk => by rw [at_mk' _ _ hk, at_mk' _ _ hk, h k hk]
theorem mk'_eta (m : M) : M.mk' m.p m.at = m := rfl

theorem mc_get (m : M) {k : Nat} (hk : k < 5) : (mc m)[1 + k]? = some (I (m.at k)) :=
  five (P := fun k => (mc m)[1 + k]? = some (I (m.at k))) rfl rfl rfl rfl rfl k hk
theorem mt_get (m : M) {k : Nat} (hk : k < 5) : (mt m)[k]? = some (I (m.at k)) :=
  five (P := fun k => (mt m)[k]? = some (I (m.at k))) rfl rfl rfl rfl rfl k hk
theorem mc_set (p : Int) (f : Nat → Int) (v : Int) {k : Nat} (hk : k < 5) :
    (mc (M.mk' p f)).setIfInBounds (1 + k) (I v) = mc (M.mk' p fun j => if j = k then v else f j) :=
  five (P := fun k => (mc (M.mk' p f)).setIfInBounds (1 + k) (I v) = mc (M.mk' p fun j => if j = k then v else f j)) rfl rfl rfl rfl rfl k hk
theorem mt_set (p : Int) (f : Nat → Int) (v : Int) {k : Nat} (hk : k < 5) :
    (mt (M.mk' p f)).setIfInBounds k (I v) = mt (M.mk' p fun j => if j = k then v else f j) :=
  five (P := fun k => (mt (M.mk' p f)).setIfInBounds k (I v) = mt (M.mk' p fun j => if j = k then v else f j)) rfl rfl rfl rfl rfl k hk

/-! ### blocks -/
def Blk (w : World) (g : Nat) (t : TypeId) (cs : Array Value) : Prop := w.heap[g]? = some (.cells cs t (0, 0))
section
variable {w w' : World} {g : Nat} {t : TypeId} {cs : Array Value}
theorem Blk.lt (h : Blk w g t cs) : g < w.heap.size := by
  rcases Nat.lt_or_ge g w.heap.size with hlt | hge
  · exact hlt
  · unfold Blk at h; rw [Array.getElem?_eq_none hge] at h; cases h
theorem Blk.cell (h : Blk w g t cs) (i : Nat) : w.cell? ⟨g, i, none⟩ = cs[i]? := cell_of_row w g i cs t (0, 0) h
theorem Blk.frozen (h : Blk w g t cs) (i : Nat) : w.frozen? ⟨g, i, none⟩ = false := by
  unfold Blk at h
  simp [World.frozen?, h]
theorem Blk.new (w : World) (t : TypeId) (cs : Array Value) : Blk (w.alloc (.cells cs t)) w.heap.size t cs := heap_alloc_new w _
theorem Blk.new' (w : World) (t : TypeId) (cs : Array Value) {n : Nat} (h : n = w.heap.size) : Blk (w.alloc (.cells cs t)) n t cs := h ▸ Blk.new w t cs
theorem Blk.drew (h : Blk w g t cs) : Blk w.drew g t cs := h
theorem Blk.drewN (h : Blk w g t cs) (n : Nat) : Blk (w.drewN n) g t cs := h
theorem Blk.alloc (h : Blk w g t cs) (o : Obj) : Blk (w.alloc o) g t cs := (Below.heap_alloc w o g h.lt).trans h
theorem Blk.set_ (h : Blk w g t cs) (i : Nat) (u : Value) : Blk (w.setCell ⟨g, i, none⟩ u) g t (cs.setIfInBounds i u) := by
  unfold Blk at h ⊢
  simp [World.setCell, Array.getElem?_modify, h]
theorem Blk.far (h : Blk w g t cs) {p : Addr} (hp : g ≠ p.block) (u : Value) : Blk (w.setCell p u) g t cs := (Below.heap_setCell w p u g hp).trans h
theorem Blk.below {B : Nat} (h : Blk w g t cs) (hb : Below B w w') (hg : g < B) : Blk w' g t cs := (hb.block g hg).trans h
theorem Blk.grown {row : Option Nat} (h : Blk w g t cs) (hb : w.grownBy w' row) (hg : some g ≠ row) : Blk w' g t cs := (hb.block g h.lt hg).trans h
theorem Blk.cast {cs' : Array Value} (h : Blk w g t cs) (e : cs = cs') : Blk w g t cs' := e ▸ h
theorem Blk.at_ {m : M} (h : Blk w g t (mc m)) {k : Nat} (hk : k < 5) : w.cell? ⟨g, 1 + k, none⟩ = some (I (m.at k)) := (h.cell _).trans (mc_get m hk)
theorem Blk.att_ {m : M} (h : Blk w g t (mt m)) {k : Nat} (hk : k < 5) : w.cell? ⟨g, k, none⟩ = some (I (m.at k)) := (h.cell _).trans (mt_get m hk)
end

theorem _root_.Go.RowKit.Below.drewN {B : Nat} {a w : World} (h : Below B a w) (n : Nat) : Below B a (w.drewN n) := ⟨h.os, h.tape, h.output, h.size, h.block⟩

theorem Blk.six {w : World} {g : Nat} {t : TypeId} {m : M} (h : Blk w g t (mc m)) : w.cell? ⟨g, 0, none⟩ = some (I m.p) ∧ w.cell? ⟨g, 1, none⟩ = some (I m.t0) ∧ w.cell? ⟨g, 2, none⟩ = some (I m.t1) ∧ w.cell? ⟨g, 3, none⟩ = some (I m.t2) ∧ w.cell? ⟨g, 4, none⟩ = some (I m.t3) ∧ w.cell? ⟨g, 5, none⟩ = some (I m.t4) :=
  ⟨h.cell 0, h.cell 1, h.cell 2, h.cell 3, h.cell 4, h.cell 5⟩
/-- a map's struct stands in block g -/
abbrev Six (w : World) (g : Nat) (m : M) : Prop := w.cell? ⟨g, 0, none⟩ = some (I m.p) ∧ w.cell? ⟨g, 1, none⟩ = some (I m.t0) ∧ w.cell? ⟨g, 2, none⟩ = some (I m.t1) ∧ w.cell? ⟨g, 3, none⟩ = some (I m.t2) ∧ w.cell? ⟨g, 4, none⟩ = some (I m.t3) ∧ w.cell? ⟨g, 5, none⟩ = some (I m.t4)
theorem Six.below {w w' : World} {g n : Nat} {m : M} (h : Six w g m) (hb : Below n w w') (hg : g < n) : Six w' g m :=
  ⟨(hb.cell (p := ⟨g, 0, none⟩) hg).trans h.1, (hb.cell (p := ⟨g, 1, none⟩) hg).trans h.2.1, (hb.cell (p := ⟨g, 2, none⟩) hg).trans h.2.2.1, (hb.cell (p := ⟨g, 3, none⟩) hg).trans h.2.2.2.1, (hb.cell (p := ⟨g, 4, none⟩) hg).trans h.2.2.2.2.1, (hb.cell (p := ⟨g, 5, none⟩) hg).trans h.2.2.2.2.2⟩
theorem Six.grown {w w' : World} {g : Nat} {m : M} {row : Option Nat} (h : Six w g m) (hb : w.grownBy w' row) (hg : some g ≠ row) : Six w' g m :=
  have k : ∀ o, w'.cell? ⟨g, o, none⟩ = w.cell? ⟨g, o, none⟩ := fun o => World.cell?_of_block (w := w) (a := ⟨g, o, none⟩) (hb.block g (World.block_lt_of_cell? w ⟨g, 0, none⟩ h.1) hg)
  ⟨(k 0).trans h.1, (k 1).trans h.2.1, (k 2).trans h.2.2.1, (k 3).trans h.2.2.2.1, (k 4).trans h.2.2.2.2.1, (k 5).trans h.2.2.2.2.2⟩
theorem Six.alloc {w : World} {g : Nat} {m : M} (h : Six w g m) (o : Obj) : Six (w.alloc o) g m :=
  have hg : g < w.heap.size := World.block_lt_of_cell? w ⟨g, 0, none⟩ h.1
  have k : ∀ q, (w.alloc o).cell? ⟨g, q, none⟩ = w.cell? ⟨g, q, none⟩ := fun q => World.cell?_of_block (w := w) (a := ⟨g, q, none⟩) (Below.heap_alloc w o g hg)
  ⟨(k 0).trans h.1, (k 1).trans h.2.1, (k 2).trans h.2.2.1, (k 3).trans h.2.2.2.1, (k 4).trans h.2.2.2.2.1, (k 5).trans h.2.2.2.2.2⟩
theorem Six.far {w : World} {g : Nat} {m : M} (h : Six w g m) {p : Addr} (hp : g ≠ p.block) (u : Value) : Six (w.setCell p u) g m :=
  have k : ∀ q, (w.setCell p u).cell? ⟨g, q, none⟩ = w.cell? ⟨g, q, none⟩ := fun q => World.cell?_of_block (w := w) (a := ⟨g, q, none⟩) (Below.heap_setCell w p u g hp)
  ⟨(k 0).trans h.1, (k 1).trans h.2.1, (k 2).trans h.2.2.1, (k 3).trans h.2.2.2.1, (k 4).trans h.2.2.2.2.1, (k 5).trans h.2.2.2.2.2⟩
theorem Six.lt {w : World} {g : Nat} {m : M} (h : Six w g m) : g < w.heap.size := World.block_lt_of_cell? w ⟨g, 0, none⟩ h.1
theorem bcell {n : Nat} {w w1 : World} (hb : Below n w w1) : (∀ b o, b < n → w1.cell? ⟨b, o, none⟩ = w.cell? ⟨b, o, none⟩) ∧ (∀ b o, b < n → w1.frozen? ⟨b, o, none⟩ = w.frozen? ⟨b, o, none⟩) :=
  ⟨fun b o h => hb.cell (p := ⟨b, o, none⟩) h, fun b o h => hb.frozen (p := ⟨b, o, none⟩) h⟩
theorem Blk.five {w : World} {g : Nat} {t : TypeId} {m : M} (h : Blk w g t (mt m)) : w.cell? ⟨g, 0, none⟩ = some (I m.t0) ∧ w.cell? ⟨g, 1, none⟩ = some (I m.t1) ∧ w.cell? ⟨g, 2, none⟩ = some (I m.t2) ∧ w.cell? ⟨g, 3, none⟩ = some (I m.t3) ∧ w.cell? ⟨g, 4, none⟩ = some (I m.t4) :=
  ⟨h.cell 0, h.cell 1, h.cell 2, h.cell 3, h.cell 4⟩
theorem Blk.fr6 {w : World} {g : Nat} {t : TypeId} {cs : Array Value} (h : Blk w g t cs) : w.frozen? ⟨g, 0, none⟩ = false ∧ w.frozen? ⟨g, 1, none⟩ = false ∧ w.frozen? ⟨g, 2, none⟩ = false ∧ w.frozen? ⟨g, 3, none⟩ = false ∧ w.frozen? ⟨g, 4, none⟩ = false ∧ w.frozen? ⟨g, 5, none⟩ = false :=
  ⟨h.frozen 0, h.frozen 1, h.frozen 2, h.frozen 3, h.frozen 4, h.frozen 5⟩

/-- a map's struct stored into block q -/
abbrev st6 (w : World) (q : Nat) (m : M) : World := (((((w.setCell ⟨q, 0, none⟩ (I m.p)).setCell ⟨q, 1, none⟩ (I m.t0)).setCell ⟨q, 2, none⟩ (I m.t1)).setCell ⟨q, 3, none⟩ (I m.t2)).setCell ⟨q, 4, none⟩ (I m.t3)).setCell ⟨q, 5, none⟩ (I m.t4)
theorem Blk.st6 {w : World} {q : Nat} {t : TypeId} {m0 : M} (h : Blk w q t (mc m0)) (m : M) : Blk (st6 w q m) q t (mc m) :=
  ((((((h.set_ 0 (I m.p)).set_ 1 (I m.t0)).set_ 2 (I m.t1)).set_ 3 (I m.t2)).set_ 4 (I m.t3)).set_ 5 (I m.t4)).cast rfl
theorem Six.st6 {w : World} {g q : Nat} {m0 : M} (h : Six w g m0) (hq : g ≠ q) (m : M) : Six (st6 w q m) g m0 :=
  (((((h.far (p := ⟨q, 0, none⟩) hq _).far (p := ⟨q, 1, none⟩) hq _).far (p := ⟨q, 2, none⟩) hq _).far (p := ⟨q, 3, none⟩) hq _).far (p := ⟨q, 4, none⟩) hq _).far (p := ⟨q, 5, none⟩) hq _
theorem below_st6 {B q : Nat} {a w : World} (h : Below B a w) (hq : B ≤ q) (m : M) : Below B a (st6 w q m) :=
  (((((h.setCell (p := ⟨q, 0, none⟩) hq _).setCell (p := ⟨q, 1, none⟩) hq _).setCell (p := ⟨q, 2, none⟩) hq _).setCell (p := ⟨q, 3, none⟩) hq _).setCell (p := ⟨q, 4, none⟩) hq _).setCell (p := ⟨q, 5, none⟩) hq _

/-! ### ends of walks -/
theorem ret_bool {a b : Bool} (h : a = b) : Ending.returned (.bool a) = .returned (.bool b) := by rw [h]
theorem ret_int {k : IntKind} {a b : Int} (h : a = b) : Ending.returned (.int k a) = .returned (.int k b) := by rw [h]
theorem ret_map {a b : M} (h : a = b) : Ending.returned (.agg (mc a)) = .returned (.agg (mc b)) := by rw [h]

/-- a block just made, behind a call that leaves it alone -/
theorem Blk.after {w w1 : World} {t : TypeId} {cs : Array Value} {n : Nat} (hb : Below n (w.alloc (.cells cs t)) w1) (hn : w.heap.size < n) : Blk w1 w.heap.size t cs := (Blk.new w t cs).below hb hn

/-- the zero of the struct -/
def M0 : M := ⟨0, 0, 0, 0, 0, 0⟩

/-- the map that has the first k points of new, and else those of old -/
def part (p : Int) (new old : Nat → Int) (k : Nat) : M := M.mk' p fun j => if j < k then new j else old j
theorem part_zero (p : Int) (new old : Nat → Int) : part p new old 0 = M.mk' p old := mk'_congr fun j _ => by simp
theorem part_at (p : Int) (new old : Nat → Int) {k j : Nat} (hj : j < 5) : (part p new old k).at j = if j < k then new j else old j := at_mk' _ _ hj
theorem part_fun {new old : Nat → Int} {k : Nat} {v : Int} (hv : v = new k) (j : Nat) : (if j = k then v else if j < k then new j else old j) = if j < k + 1 then new j else old j := by
  by_cases e : j = k
  · subst e; simp [hv]
  · rw [if_neg e]; by_cases h : j < k
    · rw [if_pos h, if_pos (by omega)]
    · rw [if_neg h, if_neg (by omega)]
theorem part_step (p : Int) (new old : Nat → Int) {k : Nat} (hk : k < 5) {v : Int} (hv : v = new k) :
    (mc (part p new old k)).setIfInBounds (1 + k) (I v) = mc (part p new old (k + 1)) :=
  (mc_set _ _ _ hk).trans (congrArg (fun f => mc (M.mk' p f)) (funext fun j => part_fun hv j))
theorem part_step' (p : Int) (new old : Nat → Int) {k : Nat} (hk : k < 5) {v : Int} (hv : v = new k) :
    (mt (part p new old k)).setIfInBounds k (I v) = mt (part p new old (k + 1)) :=
  (mt_set _ _ _ hk).trans (congrArg (fun f => mt (M.mk' p f)) (funext fun j => part_fun hv j))

/-! ### what is a map -/
def inR (n l h : Int) : Bool := decide (l ≤ n) && decide (n ≤ h)
theorem inR_true {n l h : Int} : inR n l h = true ↔ l ≤ n ∧ n ≤ h := by simp [inR]
theorem inR_false {n l h : Int} : inR n l h = false ↔ ¬ (l ≤ n ∧ n ≤ h) := by rw [← inR_true]; simp

def good (m : M) (k : Nat) : Bool := if (k : Int) < m.p then inR (m.at k) 0 (m.p - 1) else decide (m.at k = 0)
def isMap (m : M) : Bool := inR m.p 1 5 && (List.range 5).all (good m)

theorem isMap_false {m : M} {k : Nat} (hk : k < 5) (h : good m k = false) : isMap m = false := by
  simp only [isMap, Bool.and_eq_false_iff]; right
  rw [List.all_eq_false]; exact ⟨k, by simpa using hk, by simpa using h⟩
theorem isMap_true {m : M} (hp : inR m.p 1 5 = true) (h : ∀ j, j < 5 → good m j = true) : isMap m = true := by
  simp only [isMap, hp, Bool.true_and, List.all_eq_true]; intro j hj; exact h j (by simpa using hj)
theorem isMap_p {m : M} (hp : inR m.p 1 5 = false) : isMap m = false := by simp [isMap, hp]
theorem good_step {m : M} {k : Nat} (hg : ∀ j, j < k → good m j = true) (h : good m k = true) : ∀ j, j < k + 1 → good m j = true := by
  intro j hj; by_cases e : j = k
  · subst e; exact h
  · exact hg j (by omega)

structure Valid (m : M) : Prop where
  p1 : 1 ≤ m.p
  p5 : m.p ≤ 5
  lo : ∀ k : Nat, k < 5 → (k : Int) < m.p → 0 ≤ m.at k
  hi : ∀ k : Nat, k < 5 → (k : Int) < m.p → m.at k < m.p
  out : ∀ k : Nat, k < 5 → m.p ≤ (k : Int) → m.at k = 0

theorem isMap_iff (m : M) : isMap m = true ↔ Valid m := by
  constructor
  · intro h
    simp only [isMap, Bool.and_eq_true, List.all_eq_true, List.mem_range, inR_true] at h
    obtain ⟨⟨h1, h2⟩, h3⟩ := h
    refine ⟨h1, h2, ?_, ?_, ?_⟩
    · intro k hk hp; have := h3 k hk; rw [good, if_pos hp, inR_true] at this; omega
    · intro k hk hp; have := h3 k hk; rw [good, if_pos hp, inR_true] at this; omega
    · intro k hk hp; have := h3 k hk; rw [good, if_neg (by omega)] at this; simpa using this
  · intro h
    simp only [isMap, Bool.and_eq_true, List.all_eq_true, List.mem_range, inR_true]
    refine ⟨⟨h.p1, h.p5⟩, fun k hk => ?_⟩
    unfold good
    split
    · rename_i hp; rw [inR_true]; have := h.lo k hk hp; have := h.hi k hk hp; omega
    · rename_i hp; simpa using h.out k hk (by omega)
instance (m : M) : Decidable (Valid m) := decidable_of_iff _ (isMap_iff m)
theorem Valid.nn {m : M} (h : Valid m) {k : Nat} (hk : k < 5) : 0 ≤ m.at k ∧ m.at k < 5 := by
  by_cases hp : (k : Int) < m.p
  · have := h.lo k hk hp; have := h.hi k hk hp; have := h.p5; omega
  · have := h.out k hk (by omega); omega

/-- the code of something that must be a map -/
def cInv (b : Bool) : Int := if b then 0 else 1
theorem cInv_true : cInv true = 0 := rfl
theorem cInv_false : cInv false = 1 := rfl

/-! ### products -/
def mul (f g : M) : M := M.mk' f.p fun k => if (k : Int) < f.p then g.at (f.at k).toNat else 0
def one (n : Int) : M := M.mk' n fun k => if (k : Int) < n then (k : Int) else 0
theorem at_mul (f g : M) {k : Nat} (hk : k < 5) : (mul f g).at k = if (k : Int) < f.p then g.at (f.at k).toNat else 0 := at_mk' _ _ hk
theorem at_one (n : Int) {k : Nat} (hk : k < 5) : (one n).at k = if (k : Int) < n then (k : Int) else 0 := at_mk' _ _ hk
theorem p_mul (f g : M) : (mul f g).p = f.p := rfl
theorem p_one (n : Int) : (one n).p = n := rfl
theorem Valid.mul {f g : M} (hf : Valid f) (hg : Valid g) (e : f.p = g.p) : Valid (mul f g) := by
  refine ⟨hf.p1, hf.p5, ?_, ?_, ?_⟩
  · intro k hk hp
    have h1 := hf.lo k hk hp; have h2 := hf.hi k hk hp; have h3 := hf.p5
    rw [p_mul] at hp
    rw [at_mul _ _ hk, if_pos hp]
    exact hg.lo _ (by omega) (by omega)
  · intro k hk hp
    have h1 := hf.lo k hk hp; have h2 := hf.hi k hk hp; have h3 := hf.p5
    rw [p_mul] at hp ⊢
    rw [at_mul _ _ hk, if_pos hp, e]
    exact hg.hi _ (by omega) (by omega)
  · intro k hk hp
    rw [p_mul] at hp
    rw [at_mul _ _ hk, if_neg (by omega)]
theorem Valid.one {n : Int} (h1 : 1 ≤ n) (h5 : n ≤ 5) : Valid (one n) := by
  refine ⟨h1, h5, ?_, ?_, ?_⟩
  · intro k hk hp; rw [p_one] at hp; rw [at_one _ hk, if_pos hp]; omega
  · intro k hk hp; rw [p_one] at hp ⊢; rw [at_one _ hk, if_pos hp]; omega
  · intro k hk hp; rw [p_one] at hp; rw [at_one _ hk, if_neg (by omega)]

/-! ### images -/
def imgs (f : M) (k : Nat) : List Int := (List.range k).map f.at
theorem imgs_length (f : M) (k : Nat) : (imgs f k).length = k := by simp [imgs]
theorem imgs_succ (f : M) (k : Nat) : imgs f (k + 1) = imgs f k ++ [f.at k] := by simp [imgs, List.range_succ]
end Go.Proofs.Ytkbfocoaobiijaa
