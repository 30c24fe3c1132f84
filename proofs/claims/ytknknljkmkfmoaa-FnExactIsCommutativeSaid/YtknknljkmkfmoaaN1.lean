/- Words for the block of a monoid and for rows of slices; the number of a map, the place of an element; the maps are valid where the theorems say so. -/
import Derived.Test.YtknknljkmkfmoaaK4
import Derived.Test.YtknknljkmkfmoaaS2
import Derived.Laws.Tables
namespace Go.Proofs.Ytknknljkmkfmoaa
open Go.RowKit
set_option maxRecDepth 100000

/-! ### the zero of the struct of a monoid -/
noncomputable def zc : Array Value := match Try.t73.zero with | some (.agg a) => a | _ => #[]
def isZ : Value → Bool | .int .i64 0 => true | _ => false
theorem isZ_eq {v : Value} (h : isZ v = true) : v = I 0 := by
  unfold isZ at h
  split at h
  · rfl
  · cases h
theorem zc_all : (zc.toList.drop 2).all isZ = true := by kernel_rfl
theorem zc_len : (zc.toList.length == 3127) = true := by kernel_rfl
theorem zc_two : zc.toList.take 2 = [.slice none 0 0, .slice none 0 0] := by kernel_rfl
theorem zc_info : (Try.prog.info? 73).map (fun i => (i.zero, i.size)) = some (some (.agg zc), 3127) := by kernel_rfl
theorem zc_built : Try.prog.built 73 [] = some zc := by kernel_rfl
theorem zc_size : zc.size = 3127 := by have := zc_len; simpa using this
theorem zc_0 : zc[0]? = some (.slice none 0 0) := by
  have h := congrArg (fun l : List Value => l[0]?) zc_two
  simp only [List.getElem?_take] at h
  simpa using h
theorem zc_1 : zc[1]? = some (.slice none 0 0) := by
  have h := congrArg (fun l : List Value => l[1]?) zc_two
  simp only [List.getElem?_take] at h
  simpa using h
theorem zc_p {j : Nat} (hj : j < 3125) : zc[2 + j]? = some (I 0) := by
  have hl := zc_size
  have h := List.all_eq_true.1 zc_all (zc[2 + j]'(by omega)) (by
    rw [List.mem_iff_getElem]
    exact ⟨j, by simp; omega, by simp⟩)
  rw [Array.getElem?_eq_getElem (by omega), isZ_eq h]

/-- the block of a monoid: its elements, its words, its table of places -/
def Mono (w : World) (g : Nat) (ev wv : Value) (pl : Nat → Int) : Prop :=
  ∃ cs, Blk w g 73 cs ∧ cs.size = 3127 ∧ cs[0]? = some ev ∧ cs[1]? = some wv ∧ ∀ j, j < 3125 → cs[2 + j]? = some (I (pl j))
section
variable {w w' : World} {g : Nat} {ev wv : Value} {pl : Nat → Int}
theorem Mono.new (w : World) : Mono (w.alloc (.cells zc 73)) w.heap.size (.slice none 0 0) (.slice none 0 0) fun _ => 0 :=
  ⟨zc, Blk.new _ _ _, zc_size, zc_0, zc_1, fun _ h => zc_p h⟩
theorem Mono.lt (h : Mono w g ev wv pl) : g < w.heap.size := by obtain ⟨cs, hb, _⟩ := h; exact hb.lt
theorem Mono.fr (h : Mono w g ev wv pl) (o : Nat) : w.frozen? ⟨g, o, none⟩ = false := by obtain ⟨cs, hb, _⟩ := h; exact hb.frozen o
theorem Mono.c0 (h : Mono w g ev wv pl) : w.cell? ⟨g, 0, none⟩ = some ev := by obtain ⟨cs, hb, _, h0, _⟩ := h; exact (hb.cell 0).trans h0
theorem Mono.c1 (h : Mono w g ev wv pl) : w.cell? ⟨g, 1, none⟩ = some wv := by obtain ⟨cs, hb, _, _, h1, _⟩ := h; exact (hb.cell 1).trans h1
theorem Mono.cp (h : Mono w g ev wv pl) {j : Nat} (hj : j < 3125) : w.cell? ⟨g, 2 + j, none⟩ = some (I (pl j)) := by obtain ⟨cs, hb, _, _, _, hp⟩ := h; exact (hb.cell _).trans (hp j hj)
theorem Mono.keep (h : Mono w g ev wv pl) (hk : w'.heap[g]? = w.heap[g]?) : Mono w' g ev wv pl := by
  obtain ⟨cs, hb, r⟩ := h
  exact ⟨cs, hk.trans hb, r⟩
theorem Mono.below {B : Nat} (h : Mono w g ev wv pl) (hb : Below B w w') (hg : g < B) : Mono w' g ev wv pl := h.keep (hb.block g hg)
theorem Mono.alloc (h : Mono w g ev wv pl) (o : Obj) : Mono (w.alloc o) g ev wv pl := h.keep (Below.heap_alloc w o g h.lt)
theorem Mono.drew (h : Mono w g ev wv pl) : Mono w.drew g ev wv pl := h
theorem Mono.drewN (h : Mono w g ev wv pl) (n : Nat) : Mono (w.drewN n) g ev wv pl := h
theorem Mono.far (h : Mono w g ev wv pl) {p : Addr} (hp : g ≠ p.block) (u : Value) : Mono (w.setCell p u) g ev wv pl := h.keep (Below.heap_setCell w p u g hp)
theorem Mono.grown {row : Option Nat} (h : Mono w g ev wv pl) (hg : w.grownBy w' row) (hr : some g ≠ row) : Mono w' g ev wv pl := h.keep (hg.block g h.lt hr)
theorem Mono.set0 (h : Mono w g ev wv pl) (v : Value) : Mono (w.setCell ⟨g, 0, none⟩ v) g v wv pl := by
  obtain ⟨cs, hb, hs, h0, h1, hp⟩ := h
  refine ⟨_, hb.set_ 0 v, by simpa using hs, by simp [hs], by rw [Array.getElem?_setIfInBounds_ne (by decide)]; exact h1, fun j hj => ?_⟩
  rw [Array.getElem?_setIfInBounds_ne (by omega)]; exact hp j hj
theorem Mono.set1 (h : Mono w g ev wv pl) (v : Value) : Mono (w.setCell ⟨g, 1, none⟩ v) g ev v pl := by
  obtain ⟨cs, hb, hs, h0, h1, hp⟩ := h
  refine ⟨_, hb.set_ 1 v, by simpa using hs, by rw [Array.getElem?_setIfInBounds_ne (by decide)]; exact h0, by simp [hs], fun j hj => ?_⟩
  rw [Array.getElem?_setIfInBounds_ne (by omega)]; exact hp j hj
theorem Mono.setp (h : Mono w g ev wv pl) {k : Nat} (hk : k < 3125) (x : Int) : Mono (w.setCell ⟨g, 2 + k, none⟩ (I x)) g ev wv (fun j => if j = k then x else pl j) := by
  obtain ⟨cs, hb, hs, h0, h1, hp⟩ := h
  refine ⟨_, hb.set_ (2 + k) (I x), by simpa using hs, by rw [Array.getElem?_setIfInBounds_ne (by omega)]; exact h0, by rw [Array.getElem?_setIfInBounds_ne (by omega)]; exact h1, fun j hj => ?_⟩
  by_cases e : j = k
  · subst e
    have hlt : 2 + j < cs.size := by omega
    simp [hlt]
  · rw [Array.getElem?_setIfInBounds_ne (by omega)]; simp only [if_neg e]; exact hp j hj
end
theorem wpList_buildMono {ops : Array Oper} {rest : List Oper} {o : Oper} {a : Act} {w : World} {Q : Exit → Act → World → Prop} (hg : o.guard = none) (ho : o.op = .build 73 #[])
    (h : wpList Try.prog ops Q rest (a.put o.dst (.agg zc)) w) : wpList Try.prog ops Q (o :: rest) a w := by
  refine wpList_build hg 73 #[] ho ?_ ?_
  · simp [zc_built]
  · simpa [zc_built] using h

/-! ### the number of a map -/
def numTo (f : M) : Nat → Int
  | 0 => 0
  | k + 1 => numTo f k * 5 + f.at k
theorem numTo_num (f : M) : numTo f 5 = num f := by
  show ((((((0 : Int) * 5 + f.t0) * 5 + f.t1) * 5 + f.t2) * 5 + f.t3) * 5 + f.t4) = _
  unfold num
  omega
theorem numTo_bd {f : M} (hf : Valid f) : ∀ k, k ≤ 5 → 0 ≤ numTo f k ∧ numTo f k < 5 ^ k
  | 0, _ => by simp [numTo]
  | k + 1, h => by
    have := numTo_bd hf k (by omega)
    have := hf.nn (k := k) (by omega)
    rw [numTo, Int.pow_succ]
    omega
theorem numTo_le {f : M} (hf : Valid f) {k : Nat} (h : k ≤ 5) : 0 ≤ numTo f k ∧ numTo f k < 3125 := by
  have h1 := numTo_bd hf k h
  have : k = 0 ∨ k = 1 ∨ k = 2 ∨ k = 3 ∨ k = 4 ∨ k = 5 := by omega
  rcases this with rfl | rfl | rfl | rfl | rfl | rfl <;> omega

theorem number_any (f : M) (w : World) (hf : Valid f) :
    Calls Try.prog 157 #[.agg (mc f)] w fun e w' => e = .returned (I (num f)) ∧ Below w.heap.size w w' := by
  go_enter Try.func157, Try.ntmps157
  go_wp2
  go_loopw [3, 8] (fun s i wr => ∃ k : Nat, k ≤ 5 ∧ i = .int .i64 k ∧ s = .int .i64 (numTo f k) ∧ Below w.heap.size w wr) (fun _ i _ => 5 - (intOf i).toNat)
  case atStart => exact ⟨0, by omega, rfl, rfl, by (repeat (first | with_reducible assumption | with_reducible exact Below.refl _ _ | with_reducible refine Below.setCell ?_ (by first | omega | (simp <;> omega)) _ | with_reducible refine Below.alloc ?_ (by first | omega | (simp <;> omega)) _ | with_reducible refine Below.drew ?_ | with_reducible refine Below.drewN ?_ _))⟩
  case round =>
    obtain ⟨k, hk, rfl, rfl, hbel⟩ := hrel
    by_cases hlt : k < 5
    · have c1 := idx_any f k hlt
      have b0 := numTo_le hf (k := k) (by omega)
      have b1 := hf.nn hlt
      have b00 := b0.1
      have b01 := b0.2
      have b10 := b1.1
      have b11 := b1.2
      have Hn : Hid (numTo f (k + 1) = numTo f k * 5 + f.at k) := rfl
      have w1 : IntKind.i64.wrap (numTo f k * 5) = numTo f k * 5 := IntWalk.i64_in _ ⟨by omega, by omega⟩
      have w2 : IntKind.i64.wrap (numTo f k * 5 + f.at k) = numTo f k * 5 + f.at k := IntWalk.i64_in _ ⟨by omega, by omega⟩
      clear b0 b1
      go_wp2
      go_roundw
      case rel => exact ⟨k + 1, by omega, by go_num, by rw [Hn.out], hbel⟩
      case measure => simp [intOf]; omega
    · obtain rfl : k = 5 := by omega
      have Hn := Lib.hid (numTo_num f)
      go_wp2
      go_ret
      exact ⟨ret_int Hn.out, hbel⟩
end Go.Proofs.Ytknknljkmkfmoaa
