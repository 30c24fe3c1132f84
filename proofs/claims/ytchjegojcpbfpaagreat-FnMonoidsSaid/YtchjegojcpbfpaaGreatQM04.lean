/- Words for the block of a monoid and for rows of slices; the number of a map, the place of an element; the maps are valid where the theorems say so. Rows of slices, copies of rows, and the state of the search for the elements of a monoid; no conditions beyond those that each theorem states. The state of the search for the elements of a monoid; no conditions beyond those that each theorem states. The contracts of place and product of a monoid; the monoid stands as the theorems say. The contracts of all, any and only of a monoid, for a predicate that its closure computes; the monoid stands as the theorems say. The contract of spec.l02Find; the list is as the theorem states. Where a map is put into an ascending list; append of a list of maps in a region of any order. The contract of spec.l01Put; the list is as the theorem states. Rows of numbers joined; the copy of the reference; what stands while the reference searches for the elements of a monoid; no conditions beyond those that each theorem states. -/
import Derived.Test.YtchjegojcpbfpaaGreatQM03
import Derived.Laws.Tables
set_option linter.unusedSimpArgs false
set_option linter.unusedVariables false
namespace Go.Proofs.YtchjegojcpbfpaaGreat
open Go.RowKit
set_option maxRecDepth 100000
/-! ### the zero of the struct of a monoid -/
noncomputable def zc : Array Value := match Tryz.t64.zero with | some (.agg a) => a | _ => #[]
def isZ : Value → Bool | .int .i64 0 => true | _ => false
theorem isZ_eq {v : Value} (h : isZ v = true) : v = I 0 := by
  unfold isZ at h
  split at h
  · rfl
  · cases h
theorem zc_all : (zc.toList.drop 2).all isZ = true := by kernel_rfl
theorem zc_len : (zc.toList.length == 3127) = true := by kernel_rfl
theorem zc_two : zc.toList.take 2 = [.slice none 0 0, .slice none 0 0] := by kernel_rfl
theorem zc_built : Tryz.prog.built 64 [] = some zc := by kernel_rfl
theorem zc_size : zc.size = 3127 := by have := zc_len; simpa using this
theorem zc_0 : zc[0]? = some (.slice none 0 0) := by
  have h := congrArg (fun l : List Value => l[0]?) zc_two
  simp only [List.getElem?_take] at h
  simpa using h
theorem zc_1 : zc[1]? = some (.slice none 0 0) := by
  have h := congrArg (fun l : List Value => l[1]?) zc_two
  simp only [List.getElem?_take] at h
  simpa using h
theorem zc_p {j : Nat} (hj : j < 3125) : zc[2 + j]? = some (I 0) := by
  have hl := zc_size
  have h := List.all_eq_true.1 zc_all (zc[2 + j]'(by omega)) (by
    rw [List.mem_iff_getElem]
    exact ⟨j, by simp; omega, by simp⟩)
  rw [Array.getElem?_eq_getElem (by omega), isZ_eq h]
def Mono (w : World) (g : Nat) (ev wv : Value) (pl : Nat → Int) : Prop :=
  ∃ cs, Blk w g 64 cs ∧ cs.size = 3127 ∧ cs[0]? = some ev ∧ cs[1]? = some wv ∧ ∀ j, j < 3125 → cs[2 + j]? = some (I (pl j))
section
variable {w w' : World} {g : Nat} {ev wv : Value} {pl : Nat → Int}
theorem Mono.new (w : World) : Mono (w.alloc (.cells zc 64)) w.heap.size (.slice none 0 0) (.slice none 0 0) fun _ => 0 :=
  ⟨zc, Blk.new _ _ _, zc_size, zc_0, zc_1, fun _ h => zc_p h⟩
theorem Mono.lt (h : Mono w g ev wv pl) : g < w.heap.size := by obtain ⟨cs, hb, _⟩ := h; exact hb.lt
theorem Mono.fr (h : Mono w g ev wv pl) (o : Nat) : w.frozen? ⟨g, o, none⟩ = false := by obtain ⟨cs, hb, _⟩ := h; exact hb.frozen o
theorem Mono.c0 (h : Mono w g ev wv pl) : w.cell? ⟨g, 0, none⟩ = some ev := by obtain ⟨cs, hb, _, h0, _⟩ := h; exact (hb.cell 0).trans h0
theorem Mono.c1 (h : Mono w g ev wv pl) : w.cell? ⟨g, 1, none⟩ = some wv := by obtain ⟨cs, hb, _, _, h1, _⟩ := h; exact (hb.cell 1).trans h1
theorem Mono.cp (h : Mono w g ev wv pl) {j : Nat} (hj : j < 3125) : w.cell? ⟨g, 2 + j, none⟩ = some (I (pl j)) := by obtain ⟨cs, hb, _, _, _, hp⟩ := h; exact (hb.cell _).trans (hp j hj)
theorem Mono.keep (h : Mono w g ev wv pl) (hk : w'.heap[g]? = w.heap[g]?) : Mono w' g ev wv pl := by
  obtain ⟨cs, hb, r⟩ := h
  exact ⟨cs, hk.trans hb, r⟩
theorem Mono.below {B : Nat} (h : Mono w g ev wv pl) (hb : Below B w w') (hg : g < B) : Mono w' g ev wv pl := h.keep (hb.block g hg)
theorem Mono.alloc (h : Mono w g ev wv pl) (o : Obj) : Mono (w.alloc o) g ev wv pl := h.keep (Below.heap_alloc w o g h.lt)
theorem Mono.drew (h : Mono w g ev wv pl) : Mono w.drew g ev wv pl := h
theorem Mono.drewN (h : Mono w g ev wv pl) (n : Nat) : Mono (w.drewN n) g ev wv pl := h
theorem Mono.far (h : Mono w g ev wv pl) {p : Addr} (hp : g ≠ p.block) (u : Value) : Mono (w.setCell p u) g ev wv pl := h.keep (Below.heap_setCell w p u g hp)
theorem Mono.grown {row : Option Nat} (h : Mono w g ev wv pl) (hg : w.grownBy w' row) (hr : some g ≠ row) : Mono w' g ev wv pl := h.keep (hg.block g h.lt hr)
theorem Mono.set0 (h : Mono w g ev wv pl) (v : Value) : Mono (w.setCell ⟨g, 0, none⟩ v) g v wv pl := by
  obtain ⟨cs, hb, hs, h0, h1, hp⟩ := h
  refine ⟨_, hb.set_ 0 v, by simpa using hs, by simp [hs], by rw [Array.getElem?_setIfInBounds_ne (by decide)]; exact h1, fun j hj => ?_⟩
  rw [Array.getElem?_setIfInBounds_ne (by omega)]; exact hp j hj
theorem Mono.set1 (h : Mono w g ev wv pl) (v : Value) : Mono (w.setCell ⟨g, 1, none⟩ v) g ev v pl := by
  obtain ⟨cs, hb, hs, h0, h1, hp⟩ := h
  refine ⟨_, hb.set_ 1 v, by simpa using hs, by rw [Array.getElem?_setIfInBounds_ne (by decide)]; exact h0, by simp [hs], fun j hj => ?_⟩
  rw [Array.getElem?_setIfInBounds_ne (by omega)]; exact hp j hj
theorem Mono.setp (h : Mono w g ev wv pl) {k : Nat} (hk : k < 3125) (x : Int) : Mono (w.setCell ⟨g, 2 + k, none⟩ (I x)) g ev wv (fun j => if j = k then x else pl j) := by
  obtain ⟨cs, hb, hs, h0, h1, hp⟩ := h
  refine ⟨_, hb.set_ (2 + k) (I x), by simpa using hs, by rw [Array.getElem?_setIfInBounds_ne (by omega)]; exact h0, by rw [Array.getElem?_setIfInBounds_ne (by omega)]; exact h1, fun j hj => ?_⟩
  by_cases e : j = k
  · subst e
    have hlt : 2 + j < cs.size := by omega
    simp [hlt]
  · rw [Array.getElem?_setIfInBounds_ne (by omega)]; simp only [if_neg e]; exact hp j hj
end
theorem wpList_buildMono {ops : Array Oper} {rest : List Oper} {o : Oper} {a : Act} {w : World} {Q : Exit → Act → World → Prop} (hg : o.guard = none) (ho : o.op = .build 64 #[])
    (h : wpList Tryz.prog ops Q rest (a.put o.dst (.agg zc)) w) : wpList Tryz.prog ops Q (o :: rest) a w := by
  refine wpList_build hg 64 #[] ho ?_ ?_
  · simp [zc_built]
  · simpa [zc_built] using h
/-! ### the number of a map -/
def numTo (f : M) : Nat → Int
  | 0 => 0
  | k + 1 => numTo f k * 5 + f.at k
theorem numTo_num (f : M) : numTo f 5 = num f := by
  show ((((((0 : Int) * 5 + f.t0) * 5 + f.t1) * 5 + f.t2) * 5 + f.t3) * 5 + f.t4) = _
  unfold num
  omega
theorem numTo_bd {f : M} (hf : Valid f) : ∀ k, k ≤ 5 → 0 ≤ numTo f k ∧ numTo f k < 5 ^ k
  | 0, _ => by simp [numTo]
  | k + 1, h => by
    have := numTo_bd hf k (by omega)
    have := hf.nn (k := k) (by omega)
    rw [numTo, Int.pow_succ]
    omega
theorem numTo_le {f : M} (hf : Valid f) {k : Nat} (h : k ≤ 5) : 0 ≤ numTo f k ∧ numTo f k < 3125 := by
  have h1 := numTo_bd hf k h
  have : k = 0 ∨ k = 1 ∨ k = 2 ∨ k = 3 ∨ k = 4 ∨ k = 5 := by omega
  rcases this with rfl | rfl | rfl | rfl | rfl | rfl <;> omega
theorem number_any (f : M) (w : World) (hf : Valid f) :
    Calls Tryz.prog 105 #[.agg (mc f)] w fun e w' => e = .returned (I (num f)) ∧ Below w.heap.size w w' := by
  go_enter Tryz.func105, Tryz.ntmps105
  go_wp2
  go_loopw [3, 8] (fun s i wr => ∃ k : Nat, k ≤ 5 ∧ i = .int .i64 k ∧ s = .int .i64 (numTo f k) ∧ Below w.heap.size w wr) (fun _ i _ => 5 - (intOf i).toNat)
  case atStart => exact ⟨0, by omega, rfl, rfl, by (repeat (first | with_reducible assumption | with_reducible exact Below.refl _ _ | with_reducible refine Below.setCell ?_ (by first | omega | (simp <;> omega)) _ | with_reducible refine Below.alloc ?_ (by first | omega | (simp <;> omega)) _ | with_reducible refine Below.drew ?_ | with_reducible refine Below.drewN ?_ _))⟩
  case round =>
    obtain ⟨k, hk, rfl, rfl, hbel⟩ := hrel
    by_cases hlt : k < 5
    · have c1 := idx_any f k hlt
      have b0 := numTo_le hf (k := k) (by omega)
      have b1 := hf.nn hlt
      have b00 := b0.1
      have b01 := b0.2
      have b10 := b1.1
      have b11 := b1.2
      have Hn : Hid (numTo f (k + 1) = numTo f k * 5 + f.at k) := rfl
      have w1 : IntKind.i64.wrap (numTo f k * 5) = numTo f k * 5 := IntWalk.i64_in _ ⟨by omega, by omega⟩
      have w2 : IntKind.i64.wrap (numTo f k * 5 + f.at k) = numTo f k * 5 + f.at k := IntWalk.i64_in _ ⟨by omega, by omega⟩
      clear b0 b1
      go_wp2
      go_roundw
      case rel => exact ⟨k + 1, by omega, by go_num, by rw [Hn.out], hbel⟩
      case measure => simp [intOf]; omega
    · obtain rfl : k = 5 := by omega
      have Hn := Lib.hid (numTo_num f)
      go_wp2
      go_ret
      exact ⟨ret_int Hn.out, hbel⟩
set_option maxRecDepth 100000
/-! ### rows of slices -/
def gv (vs : List Value) (k : Nat) : Value := vs.getD k undef
theorem gv_eq {vs : List Value} {k : Nat} (hk : k < vs.length) : gv vs k = vs[k] := by simp [gv, List.getD, hk]
theorem gv_app {vs ws : List Value} {k : Nat} (hk : k < vs.length) : gv (vs ++ ws) k = gv vs k := by rw [gv_eq hk, gv_eq (by simp; omega), List.getElem_append_left hk]
theorem gv_last {vs : List Value} {v : Value} {k : Nat} (h : vs.length = k) : gv (vs ++ [v]) k = v := by
  subst h
  rw [gv_eq (by simp), List.getElem_append_right (by simp)]
  simp
def RdV (w : World) (B : Nat) (A : Option Addr) (vs : List Value) : Prop := Rd 1 w B A vs.length vs
theorem RdV.at_ {w : World} {B : Nat} {A : Option Addr} {vs : List Value} (h : RdV w B A vs) {k : Nat} (hk : k < vs.length) :
    ∃ b off, A = some ⟨b, off, none⟩ ∧ b < B ∧ w.cell? ⟨b, off + k, none⟩ = some (gv vs k) := by
  obtain ⟨b, off, e, hb, hc⟩ := h.2 (by omega)
  exact ⟨b, off, e, hb, hc k _ (by rw [gv_eq hk]; simp [hk])⟩
def OwV (e : TypeId) (w : World) (B : Nat) (v : Value) (vs : List Value) : Prop := w.ownsRow B e 1 v vs.length vs
section
variable {e : TypeId} {w w' : World} {B B' : Nat} {v : Value} {vs : List Value}
theorem OwV.form (h : OwV e w B v vs) : ∃ A c, v = .slice A vs.length c ∧ RdV w w.heap.size A vs := by
  rcases h.2 with ⟨rfl, h0⟩ | ⟨g, cap, cur, rfl, _⟩
  · have hz : vs = [] := List.eq_nil_of_length_eq_zero h0
    subst hz
    exact ⟨none, 0, rfl, Rd.nil_⟩
  · exact ⟨_, _, rfl, Rd.of_own h⟩
theorem OwV.lt (h : OwV e w B v vs) : ∀ g, v.ownBlock = some g → B ≤ g ∧ g < w.heap.size := World.ownsRow.lt h
theorem OwV.mono (h : OwV e w B v vs) (hB : B' ≤ B) : OwV e w B' v vs := by
  refine ⟨h.1, ?_⟩
  rcases h.2 with hn | ⟨g, cap, cur, hv, hg, rest⟩
  · exact .inl hn
  · exact .inr ⟨g, cap, cur, hv, by omega, rest⟩
theorem OwV.keep (h : OwV e w B v vs) (hk : ∀ g, v.ownBlock = some g → w'.heap[g]? = w.heap[g]?) : OwV e w' B v vs := by
  refine ⟨h.1, ?_⟩
  rcases h.2 with hn | ⟨g, cap, cur, rfl, hg, hh, rest⟩
  · exact .inl hn
  · exact .inr ⟨g, cap, cur, rfl, hg, by rw [hk g rfl]; exact hh, rest⟩
theorem OwV.below {m : Nat} (h : OwV e w B v vs) (hb : Below m w w') (hm : w.heap.size ≤ m) : OwV e w' B v vs :=
  h.keep fun g hg => hb.block g (by have := h.lt g hg; omega)
theorem OwV.alloc (h : OwV e w B v vs) (o : Obj) : OwV e (w.alloc o) B v vs := h.keep fun g hg => Below.heap_alloc w o g (h.lt g hg).2
theorem OwV.grown {row : Option Nat} (h : OwV e w B v vs) (hg : w.grownBy w' row) (hr : ∀ g, v.ownBlock = some g → row ≠ some g) : OwV e w' B v vs :=
  h.keep fun g hv => hg.block g (h.lt g hv).2 (fun e => hr g hv e.symm)
theorem OwV.bel (h : OwV e w B v vs) {n : Nat} {w0 : World} (hb : Below n w0 w) (hg : w.grownBy w' v.ownBlock) (hB : n ≤ B) (hs : n ≤ w.heap.size) : Below n w0 w' :=
  hb.grown hg hs fun k hk => by have := h.lt k hk; omega
theorem OwV.nil_ : OwV e w B (.slice none 0 0) [] := World.ownsRow_nil w B e 1
theorem OwV.one {u : Value} (hb : B ≤ w.heap.size) : OwV e (w.alloc (.cells #[u] e)) B (.slice (some ⟨w.heap.size, 0, none⟩) 1 1) [u] :=
  ⟨by simp, .inr ⟨w.heap.size, 1, #[u], rfl, hb, heap_alloc_new w _, Nat.le_refl _, by simp [maxLen], rfl, by simp⟩⟩
theorem OwM.grown {ms : List M} {row : Option Nat} (h : OwM e w B v ms) (hg : w.grownBy w' row) (hr : ∀ g, v.ownBlock = some g → row ≠ some g) : OwM e w' B v ms :=
  h.keep fun g hv => hg.block g (h.lt g hv).2 (fun e => hr g hv e.symm)
theorem OwI.grown {zs : List Int} {row : Option Nat} (h : OwI e w B v zs) (hg : w.grownBy w' row) (hr : ∀ g, v.ownBlock = some g → row ≠ some g) : OwI e w' B v zs :=
  h.keep fun g hv => hg.block g (h.lt g hv).2 (fun e => hr g hv e.symm)
end
theorem infoV : (Tryz.prog.info? 39).map (fun i => (i.zero, i.size, i.bytes)) = some (some (.slice none 0 0), 1, 24) := by kernel_rfl
theorem wp_pushV {w : World} {o : Oper} {a : Act} {K : Act → World → Prop} {Q : Exit → Act → World → Prop} (s x : Operand)
    (ho : o.op = .call { callee := .builtin .append, args := #[s, x], argTypes := #[61, 61] }) (B : Nat) (v : Value) (vs : List Value) (hs : a.eval s = v) (hown : OwV 39 w B v vs)
    (g : Nat) (c : Nat) (u : Value) (hu : u.oneCell' = true) (hx : a.eval x = .slice (some ⟨g, 0, none⟩) 1 c) (hg : w.cell? ⟨g, 0, none⟩ = some u)
    (hn : vs.length < 1073741824) (hB : B ≤ w.heap.size)
    (h : ∀ g' cap w', OwV 39 w' B (.slice (some ⟨g', 0, none⟩) (vs.length + 1) cap) (vs ++ [u]) → w.grownBy w' v.ownBlock → (v.ownBlock = some g' ∨ g' = w.heap.size) → g' < w'.heap.size →
      K (a.put o.dst (.slice (some ⟨g', 0, none⟩) (vs.length + 1) cap)) w') : o.wp Tryz.prog a w K Q := by
  obtain ⟨i, hi, hz0, hz1, hz2⟩ := info_parts infoV
  refine wp_append_lies w s x 61 ho B 39 i (.slice none 0 0) 1 24 Tryz.underlying61 hi hz0 hz1 hz2 rfl (by decide) v vs.length vs hs hown ⟨g, 0, none⟩ 1 c [u] hx rfl ?_ ?_ (by decide) (by unfold maxLen; omega) (by omega) hB w.heap.size rfl ?_
  · intro j u' hj
    match j, hj with
    | 0, hj => simp at hj; subst hj; simpa [Addr.add] using hg
  · intro u' hu'; simp at hu'; subst hu'; exact hu
  · intro g' cap w' h1 h2 h3 h4
    exact h g' cap w' (by unfold OwV; simpa using h1) h2 h3 h4
theorem wp_pushM {w : World} {o : Oper} {a : Act} {K : Act → World → Prop} {Q : Exit → Act → World → Prop} (s x : Operand)
    (ho : o.op = .call { callee := .builtin .append, args := #[s, x], argTypes := #[24, 24] }) (B : Nat) (v : Value) (ms : List M) (hs : a.eval s = v) (hown : OwM 31 w B v ms)
    (g : Nat) (c : Nat) (m : M) (hx : a.eval x = .slice (some ⟨g, 0, none⟩) 1 c) (hg : Six w g m)
    (hn : ms.length < 1073741824) (hB : B ≤ w.heap.size)
    (h : ∀ g' cap w', OwM 31 w' B (.slice (some ⟨g', 0, none⟩) (ms.length + 1) cap) (ms ++ [m]) → w.grownBy w' v.ownBlock → (v.ownBlock = some g' ∨ g' = w.heap.size) → g' < w'.heap.size →
      K (a.put o.dst (.slice (some ⟨g', 0, none⟩) (ms.length + 1) cap)) w') : o.wp Tryz.prog a w K Q := by
  obtain ⟨i, hi, hz0, hz1, hz2⟩ := info_parts infoM
  refine wp_append_lies w s x 24 ho B 31 i (.agg (mc M0)) 6 48 Tryz.underlying24 hi hz0 hz1 hz2 rfl (by decide) v ms.length (mcs ms) hs hown ⟨g, 0, none⟩ 1 c (mc m).toList hx rfl ?_ ?_ (by decide) (by unfold maxLen; omega) (by omega) hB w.heap.size rfl ?_
  · intro j u hj
    obtain ⟨c0, c1, c2, c3, c4, c5⟩ := hg
    match j, hj with
    | 0, hj => simp at hj; subst hj; exact c0
    | 1, hj => simp at hj; subst hj; exact c1
    | 2, hj => simp at hj; subst hj; exact c2
    | 3, hj => simp at hj; subst hj; exact c3
    | 4, hj => simp at hj; subst hj; exact c4
    | 5, hj => simp at hj; subst hj; exact c5
    | n + 6, hj => simp at hj
  · intro u hu; simp at hu; rcases hu with rfl | rfl | rfl | rfl | rfl | rfl <;> rfl
  · intro g' cap w' h1 h2 h3 h4
    exact h g' cap w' (by unfold OwM; rw [mcs_app]; simpa [mcs] using h1) h2 h3 h4
theorem wp_pushI {w : World} {o : Oper} {a : Act} {K : Act → World → Prop} {Q : Exit → Act → World → Prop} (s x : Operand)
    (ho : o.op = .call { callee := .builtin .append, args := #[s, x], argTypes := #[39, 39] }) (B : Nat) (v : Value) (zs : List Int) (hs : a.eval s = v) (hown : OwI 2 w B v zs)
    (g : Nat) (c : Nat) (z : Int) (hx : a.eval x = .slice (some ⟨g, 0, none⟩) 1 c) (hg : w.cell? ⟨g, 0, none⟩ = some (I z))
    (hn : zs.length < 1073741824) (hB : B ≤ w.heap.size)
    (h : ∀ g' cap w', OwI 2 w' B (.slice (some ⟨g', 0, none⟩) (zs.length + 1) cap) (zs ++ [z]) → w.grownBy w' v.ownBlock → (v.ownBlock = some g' ∨ g' = w.heap.size) → g' < w'.heap.size →
      K (a.put o.dst (.slice (some ⟨g', 0, none⟩) (zs.length + 1) cap)) w') : o.wp Tryz.prog a w K Q := by
  obtain ⟨i, hi, hz0, hz1, hz2⟩ := info_parts infoI
  refine wp_append_lies w s x 39 ho B 2 i (.int .i64 0) 1 8 Tryz.underlying39 hi hz0 hz1 hz2 rfl (by decide) v zs.length (cI zs) hs hown ⟨g, 0, none⟩ 1 c [I z] hx rfl ?_ ?_ (by decide) (by unfold maxLen; omega) (by omega) hB w.heap.size rfl ?_
  · intro j u hj
    match j, hj with
    | 0, hj => simp at hj; subst hj; simpa [Addr.add] using hg
  · intro u hu; simp at hu; subst hu; rfl
  · intro g' cap w' h1 h2 h3 h4
    exact h g' cap w' (by unfold OwI; rw [cI_snoc]; simpa using h1) h2 h3 h4
/-! ### copies -/
theorem cloneNil_any (w : World) : Calls Tryz.prog 106 #[.slice none 0 0] w fun e w' => e = .returned (.slice none 0 0) ∧ w = w' := by
  have hnil := Lib.run_eql_slice_nil (P := Tryz.prog) w 39 2 none 0 0 0 0 Tryz.underlying39
  go_enter Tryz.func106, Tryz.ntmps106
  go_wp2
  go_ret
  exact ⟨rfl, rfl⟩
theorem cloneI_any (v : Value) (B : Nat) (u : List Int) (w : World) (ho : OwI 2 w B v u) (h : u = [] → v = .slice none 0 0) (hn : u.length < 1073741824) :
    Calls Tryz.prog 106 #[v] w fun e w' => ∃ v', e = .returned v' ∧ OwI 2 w' w.heap.size v' u ∧ Below w.heap.size w w' := by
  by_cases hu : u = []
  · obtain rfl := h hu
    subst hu
    refine (cloneNil_any w).mono ?_
    rintro e w' ⟨rfl, rfl⟩
    exact ⟨_, rfl, OwI.nil_, Below.refl _ _⟩
  · have hpos := List.length_pos_iff.2 hu
    rcases ho.2 with ⟨_, h0⟩ | ⟨g, cap, cur, rfl, _⟩
    · omega
    · obtain ⟨A, c, hv, hr⟩ := ho.form
      injection hv with h1 _ _
      subst h1
      refine (Clone_any g 0 cap u w hr hpos hn).mono ?_
      rintro e w' ⟨g', cap', rfl, h1, h2⟩
      exact ⟨_, rfl, h1, h2⟩
theorem OwM.rd {e : TypeId} {w : World} {B g n c : Nat} {ms : List M} (h : OwM e w B (.slice (some ⟨g, 0, none⟩) n c) ms) : RdM w w.heap.size (some ⟨g, 0, none⟩) ms := by
  obtain ⟨A, c', hv, hr⟩ := h.form
  injection hv with h1 _ _
  subst h1
  exact hr
theorem OwM.some_ {e : TypeId} {w : World} {B : Nat} {v : Value} {ms : List M} (h : OwM e w B v ms) (hpos : 0 < ms.length) : ∃ g c, v = .slice (some ⟨g, 0, none⟩) ms.length c := by
  rcases h.2 with ⟨_, h0⟩ | ⟨g, cap, cur, rfl, _⟩
  · omega
  · exact ⟨g, cap, rfl⟩
theorem OwV.some_ {e : TypeId} {w : World} {B : Nat} {v : Value} {vs : List Value} (h : OwV e w B v vs) (hpos : 0 < vs.length) : ∃ g c, v = .slice (some ⟨g, 0, none⟩) vs.length c := by
  rcases h.2 with ⟨_, h0⟩ | ⟨g, cap, cur, rfl, _⟩
  · omega
  · exact ⟨g, cap, rfl⟩
theorem OwV.rd {e : TypeId} {w : World} {B g n c : Nat} {vs : List Value} (h : OwV e w B (.slice (some ⟨g, 0, none⟩) n c) vs) : RdV w w.heap.size (some ⟨g, 0, none⟩) vs := by
  obtain ⟨A, c', hv, hr⟩ := h.form
  injection hv with h1 _ _
  subst h1
  exact hr
theorem cloneM_any (g n c B : Nat) (ms : List M) (w : World) (ho : OwM 31 w B (.slice (some ⟨g, 0, none⟩) n c) ms) (hn : ms.length = n) (hpos : 0 < n) (hb : n < 1073741824) :
    Calls Tryz.prog 107 #[.slice (some ⟨g, 0, none⟩) n c] w fun e w' => ∃ g' c', e = .returned (.slice (some ⟨g', 0, none⟩) n c') ∧ OwM 31 w' w.heap.size (.slice (some ⟨g', 0, none⟩) n c') ms ∧ Below w.heap.size w w' := by
  have hnil := Lib.run_eql_slice_nil (P := Tryz.prog) w 24 31 (some ⟨g, 0, none⟩) n c 0 0 Tryz.underlying24
  have Hr := Lib.hid ho.rd
  have Hn := Lib.hid hn
  clear ho hn
  go_enter Tryz.func107, Tryz.ntmps107
  go_wp2_with (at_builtin; refine wpList_catM rfl (.tmp 5) (.tmp 6) rfl w.heap.size _ [] ms rfl (OwM.made (Nat.le_refl _)) (some ⟨g, 0, none⟩) n c rfl (fun h => by cases h) (Rd.more (Rd.alloc Hr.out (Nat.le_refl _) _) (by simp)) Hn.out (by simp; omega) (by simp) ?_; intro v' w4 ho' hgr)
  obtain ⟨g', c', rfl⟩ := ho'.some_ (by simp [Hn.out]; omega)
  have ho2 := ho'
  rw [List.nil_append, Hn.out] at ho2
  have hbel : Below w.heap.size w w4 := (OwM.made (Nat.le_refl _) : OwM 31 (w.alloc (.cells #[] 31)) w.heap.size _ []).bel (by (repeat (first | with_reducible assumption | with_reducible exact Below.refl _ _ | with_reducible refine Below.setCell ?_ (by first | omega | (simp <;> omega)) _ | with_reducible refine Below.alloc ?_ (by first | omega | (simp <;> omega)) _ | with_reducible refine Below.drew ?_ | with_reducible refine Below.drewN ?_ _))) hgr (Nat.le_refl _) (by simp)
  go_ret
  refine ⟨g', c', ?_, ho2, hbel⟩
  show Ending.returned (Value.slice (some ⟨g', 0, none⟩) ([] ++ ms).length c') = _
  rw [List.nil_append, Hn.out]
set_option maxRecDepth 100000
structure NSt (n : Int) (w0 : World) (ps : Met) (vs : List Value) (pl : Nat → Int) (vF vW : Value) (w : World) : Prop where
  bel : Below w0.heap.size w0 w
  mono : Mono w w0.heap.size (.slice none 0 0) (.slice none 0 0) pl
  plc : Plc n (ps.map (·.1)) pl
  f : OwM 31 w (w0.heap.size + 1) vF (ps.map (·.1))
  wd : OwV 39 w (w0.heap.size + 1) vW vs
  len : vs.length = ps.length
  ws : ∀ j, j < ps.length → OwI 2 w (w0.heap.size + 1) (gv vs j) (pm ps j).2
  nil_ : ∀ j, j < ps.length → (pm ps j).2 = [] → gv vs j = .slice none 0 0
  fw : ∀ g, vF.ownBlock = some g → vW.ownBlock ≠ some g
  fs : ∀ j, j < ps.length → ∀ g, (gv vs j).ownBlock = some g → vF.ownBlock ≠ some g ∧ vW.ownBlock ≠ some g
section
variable {n : Int} {w0 w w' : World} {ps : Met} {vs : List Value} {pl : Nat → Int} {vF vW : Value}
theorem NSt.below {m : Nat} (h : NSt n w0 ps vs pl vF vW w) (hb : Below m w w') (hm : w.heap.size ≤ m) : NSt n w0 ps vs pl vF vW w' where
  bel := h.bel.trans (hb.mono (by have := h.bel.size; omega))
  mono := h.mono.below hb (by have := h.mono.lt; omega)
  plc := h.plc
  f := h.f.below hb hm
  wd := h.wd.below hb hm
  len := h.len
  ws := fun j hj => (h.ws j hj).below hb hm
  nil_ := h.nil_
  fw := h.fw
  fs := h.fs
theorem NSt.alloc (h : NSt n w0 ps vs pl vF vW w) (o : Obj) : NSt n w0 ps vs pl vF vW (w.alloc o) := h.below ((Below.refl _ _).alloc (Nat.le_refl _) _) (Nat.le_refl _)
theorem NSt.drew (h : NSt n w0 ps vs pl vF vW w) : NSt n w0 ps vs pl vF vW w.drew := h.below (m := w.heap.size) (Below.refl _ _).drew (Nat.le_refl _)
end
/-! ### one step of the search: found, its words, and a new word are written -/
structure G15 where
  q2 : Nat
  v3 : Value
  v9 : Value
  q11 : Nat
  v12 : Value
  q13 : Nat
  v14 : Value
structure S15 (w0 w1 : World) (ps : Met) (vs : List Value) (pl : Nat → Int) (vF vW : Value) (m : M) (u : List Int) (k : Nat) (q : Nat) (b2 b3 b9 b11 b12 b13 b14 : Bool) (c : G15) (w : World) : Prop where
  size : w1.heap.size ≤ w.heap.size
  bel : Below w0.heap.size w0 w
  mono : Mono w w0.heap.size (.slice none 0 0) (.slice none 0 0) pl
  box : Six w q m
  ws : ∀ j, j < ps.length → OwI 2 w (w0.heap.size + 1) (gv vs j) (pm ps j).2
  f0 : b3 = false → OwM 31 w (w0.heap.size + 1) vF (ps.map (·.1))
  e0 : b14 = false → OwV 39 w (w0.heap.size + 1) vW vs
  s2 : b2 = true → b3 = false → Six w c.q2 m ∧ c.q2 < w.heap.size
  s3 : b3 = true → OwM 31 w (w0.heap.size + 1) c.v3 (ps.map (·.1) ++ [m]) ∧ ∀ g, c.v3.ownBlock = some g → vF.ownBlock = some g ∨ w1.heap.size ≤ g
  s9 : b9 = true → b12 = false → OwI 2 w w1.heap.size c.v9 u ∧ ∀ g, c.v9.ownBlock = some g → c.v3.ownBlock ≠ some g
  s11 : b11 = true → b12 = false → w.cell? ⟨c.q11, 0, none⟩ = some (I k) ∧ w1.heap.size ≤ c.q11 ∧ c.q11 < w.heap.size
  s12 : b12 = true → OwI 2 w w1.heap.size c.v12 (u ++ [(k : Int)]) ∧ ∀ g, c.v12.ownBlock = some g → c.v3.ownBlock ≠ some g
  s13 : b13 = true → b14 = false → w.cell? ⟨c.q13, 0, none⟩ = some c.v12 ∧ c.q13 < w.heap.size
  s14 : b14 = true → OwV 39 w (w0.heap.size + 1) c.v14 (vs ++ [c.v12]) ∧ ∀ g, c.v14.ownBlock = some g → c.v3.ownBlock ≠ some g ∧ c.v12.ownBlock ≠ some g ∧ (vW.ownBlock = some g ∨ w1.heap.size ≤ g)
section
variable {n : Int} {w0 w1 w w' : World} {ps : Met} {vs : List Value} {pl : Nat → Int} {vF vW : Value} {m : M} {u : List Int} {k q : Nat} {b2 b3 b9 b11 b12 b13 b14 : Bool} {c : G15}
theorem S15.start (h : NSt n w0 ps vs pl vF vW w1) (h6 : Six w1 q m) (c : G15) : S15 w0 w1 ps vs pl vF vW m u k q false false false false false false false c w1 where
  size := Nat.le_refl _
  bel := h.bel
  mono := h.mono
  box := h6
  ws := h.ws
  f0 := fun _ => h.f
  e0 := fun _ => h.wd
  s2 := fun h => by cases h
  s3 := fun h => by cases h
  s9 := fun h => by cases h
  s11 := fun h => by cases h
  s12 := fun h => by cases h
  s13 := fun h => by cases h
  s14 := fun h => by cases h
theorem S15.below (h : S15 w0 w1 ps vs pl vF vW m u k q b2 b3 b9 b11 b12 b13 b14 c w) (hb : Below w.heap.size w w') : S15 w0 w1 ps vs pl vF vW m u k q b2 b3 b9 b11 b12 b13 b14 c w' where
  size := Nat.le_trans h.size hb.size
  bel := h.bel.trans (hb.mono h.bel.size)
  mono := h.mono.below hb h.mono.lt
  box := h.box.below hb h.box.lt
  ws := fun j hj => (h.ws j hj).below hb (Nat.le_refl _)
  f0 := fun h3 => (h.f0 h3).below hb (Nat.le_refl _)
  e0 := fun h3 => (h.e0 h3).below hb (Nat.le_refl _)
  s2 := fun h2 h3 => ⟨(h.s2 h2 h3).1.below hb (h.s2 h2 h3).2, Nat.lt_of_lt_of_le (h.s2 h2 h3).2 hb.size⟩
  s3 := fun h3 => ⟨(h.s3 h3).1.below hb (Nat.le_refl _), (h.s3 h3).2⟩
  s9 := fun h9 h12 => ⟨(h.s9 h9 h12).1.below hb (Nat.le_refl _), (h.s9 h9 h12).2⟩
  s11 := fun h1 h2 => ⟨(hb.cell (p := ⟨c.q11, 0, none⟩) (h.s11 h1 h2).2.2).trans (h.s11 h1 h2).1, (h.s11 h1 h2).2.1, Nat.lt_of_lt_of_le (h.s11 h1 h2).2.2 hb.size⟩
  s12 := fun h3 => ⟨(h.s12 h3).1.below hb (Nat.le_refl _), (h.s12 h3).2⟩
  s13 := fun h1 h2 => ⟨(hb.cell (p := ⟨c.q13, 0, none⟩) (h.s13 h1 h2).2).trans (h.s13 h1 h2).1, Nat.lt_of_lt_of_le (h.s13 h1 h2).2 hb.size⟩
  s14 := fun h3 => ⟨(h.s14 h3).1.below hb (Nat.le_refl _), (h.s14 h3).2⟩
theorem S15.do2 (h : S15 w0 w1 ps vs pl vF vW m u k q b2 false b9 b11 b12 b13 b14 c w) : S15 w0 w1 ps vs pl vF vW m u k q true false b9 b11 b12 b13 b14 { c with q2 := w.heap.size } (w.alloc (.cells (mc m) 31)) :=
  have h' := h.below ((Below.refl w.heap.size w).alloc (Nat.le_refl _) (.cells (mc m) 31))
  { h' with s2 := fun _ _ => ⟨Blk.six (Blk.new w _ _), by simp⟩, s11 := h'.s11, s13 := h'.s13 }
theorem own_some {g n c : Nat} : (Value.slice (some ⟨g, 0, none⟩) n c).ownBlock = some g := rfl
theorem own_eq {g g' n c : Nat} (h : (Value.slice (some ⟨g, 0, none⟩) n c).ownBlock = some g') : g' = g := by
  rw [own_some] at h; injection h with h; exact h.symm
theorem grown_cell {w w' : World} {row : Option Nat} (hg : w.grownBy w' row) {b o : Nat} (hb : b < w.heap.size) (hr : row ≠ some b) : w'.cell? ⟨b, o, none⟩ = w.cell? ⟨b, o, none⟩ :=
  World.cell?_of_block (w := w) (a := ⟨b, o, none⟩) (hg.block b hb (fun e => hr e.symm))
theorem S15.do3 (h : S15 w0 w1 ps vs pl vF vW m u k q true false false b11 false false false c w) (hN : NSt n w0 ps vs pl vF vW w1) (hq : ∀ g, vF.ownBlock = some g → g < q) {g' cap N : Nat}
    (hown : OwM 31 w' (w0.heap.size + 1) (.slice (some ⟨g', 0, none⟩) N cap) (ps.map (·.1) ++ [m])) (hgr : w.grownBy w' vF.ownBlock) (hor : vF.ownBlock = some g' ∨ g' = w.heap.size) :
    S15 w0 w1 ps vs pl vF vW m u k q true true false b11 false false false { c with v3 := .slice (some ⟨g', 0, none⟩) N cap } w' where
  size := Nat.le_trans h.size hgr.size
  bel := (h.f0 rfl).bel h.bel hgr (by omega) h.bel.size
  mono := h.mono.grown hgr fun e => by have := hN.f.lt _ e.symm; omega
  box := h.box.grown hgr fun e => by have := hq _ e.symm; omega
  ws := fun j hj => (h.ws j hj).grown hgr fun g hg => (hN.fs j hj g hg).1
  f0 := fun h => by cases h
  e0 := fun _ => (h.e0 rfl).grown hgr fun g hg e => hN.fw g e hg
  s2 := fun _ h => by cases h
  s3 := fun _ => ⟨hown, fun g hg => by
    obtain rfl := own_eq hg
    rcases hor with h1 | h1
    · exact .inl h1
    · right; have := h.size; omega⟩
  s9 := fun h => by cases h
  s11 := fun h1 h2 => ⟨(grown_cell hgr (h.s11 h1 h2).2.2 fun e => by have := hN.f.lt _ e; have := (h.s11 h1 h2).2.1; omega).trans (h.s11 h1 h2).1, (h.s11 h1 h2).2.1, Nat.lt_of_lt_of_le (h.s11 h1 h2).2.2 hgr.size⟩
  s12 := fun h => by cases h
  s13 := fun h => by cases h
  s14 := fun h => by cases h
theorem S15.do9 (h : S15 w0 w1 ps vs pl vF vW m u k q b2 true false b11 false false false c w) {v : Value} (hb : Below w.heap.size w w') (ho : OwI 2 w' w.heap.size v u) :
    S15 w0 w1 ps vs pl vF vW m u k q b2 true true b11 false false false { c with v9 := v } w' :=
  have h' := h.below hb
  { h' with s9 := fun _ _ => ⟨ho.mono h.size, fun g hg e => by have := ho.lt g hg; have := (h.s3 rfl).1.lt g e; omega⟩, s2 := h'.s2, s3 := h'.s3, s11 := h'.s11, s12 := h'.s12, s13 := h'.s13, s14 := h'.s14 }
theorem S15.do11 (h : S15 w0 w1 ps vs pl vF vW m u k q b2 b3 b9 b11 b12 b13 b14 c w) : S15 w0 w1 ps vs pl vF vW m u k q b2 b3 b9 true b12 b13 b14 { c with q11 := w.heap.size } (w.alloc (.cells #[I k] 2)) :=
  have h' := h.below ((Below.refl w.heap.size w).alloc (Nat.le_refl _) (.cells #[I k] 2))
  { h' with s11 := fun _ _ => ⟨(Blk.new w 2 #[I k]).cell 0, h.size, by simp⟩, s2 := h'.s2, s3 := h'.s3, s9 := h'.s9, s12 := h'.s12, s13 := h'.s13, s14 := h'.s14 }
theorem S15.do12 (h : S15 w0 w1 ps vs pl vF vW m u k q b2 true true true false false false c w) (hN : NSt n w0 ps vs pl vF vW w1) (hq : q < w1.heap.size) {g' cap N : Nat}
    (hown : OwI 2 w' w1.heap.size (.slice (some ⟨g', 0, none⟩) N cap) (u ++ [(k : Int)])) (hgr : w.grownBy w' c.v9.ownBlock) (hor : c.v9.ownBlock = some g' ∨ g' = w.heap.size) :
    S15 w0 w1 ps vs pl vF vW m u k q b2 true true true true false false { c with v12 := .slice (some ⟨g', 0, none⟩) N cap } w' where
  size := Nat.le_trans h.size hgr.size
  bel := (h.s9 rfl rfl).1.bel h.bel hgr hN.bel.size h.bel.size
  mono := h.mono.grown hgr fun e => by have := (h.s9 rfl rfl).1.lt _ e.symm; have := hN.mono.lt; omega
  box := h.box.grown hgr fun e => by have := (h.s9 rfl rfl).1.lt _ e.symm; omega
  ws := fun j hj => (h.ws j hj).grown hgr fun g hg e => by have := (h.s9 rfl rfl).1.lt _ e; have := (hN.ws j hj).lt g hg; omega
  f0 := fun h => by cases h
  e0 := fun _ => (h.e0 rfl).grown hgr fun g hg e => by have := (h.s9 rfl rfl).1.lt _ e; have := hN.wd.lt g hg; omega
  s2 := fun _ h => by cases h
  s3 := fun _ => ⟨(h.s3 rfl).1.grown hgr fun g hg e => (h.s9 rfl rfl).2 g e hg, (h.s3 rfl).2⟩
  s9 := fun _ h => by cases h
  s11 := fun _ h => by cases h
  s12 := fun _ => ⟨hown, fun g hg e => by
    obtain rfl := own_eq hg
    rcases hor with h1 | h1
    · exact (h.s9 rfl rfl).2 _ h1 e
    · have := (h.s3 rfl).1.lt _ e; omega⟩
  s13 := fun h => by cases h
  s14 := fun h => by cases h
theorem S15.do13 (h : S15 w0 w1 ps vs pl vF vW m u k q b2 b3 b9 b11 true false false c w) : S15 w0 w1 ps vs pl vF vW m u k q b2 b3 b9 b11 true true false { c with q13 := w.heap.size } (w.alloc (.cells #[c.v12] 39)) :=
  have h' := h.below ((Below.refl w.heap.size w).alloc (Nat.le_refl _) (.cells #[c.v12] 39))
  { h' with s13 := fun _ _ => ⟨(Blk.new w 39 #[c.v12]).cell 0, by simp⟩, s2 := h'.s2, s3 := h'.s3, s9 := h'.s9, s11 := h'.s11, s12 := h'.s12, s14 := h'.s14 }
theorem S15.do14 (h : S15 w0 w1 ps vs pl vF vW m u k q b2 true b9 b11 true true false c w) (hN : NSt n w0 ps vs pl vF vW w1) (hq : ∀ g, vW.ownBlock = some g → g < q) {g' cap N : Nat}
    (hown : OwV 39 w' (w0.heap.size + 1) (.slice (some ⟨g', 0, none⟩) N cap) (vs ++ [c.v12])) (hgr : w.grownBy w' vW.ownBlock) (hor : vW.ownBlock = some g' ∨ g' = w.heap.size) :
    S15 w0 w1 ps vs pl vF vW m u k q b2 true b9 b11 true true true { c with v14 := .slice (some ⟨g', 0, none⟩) N cap } w' where
  size := Nat.le_trans h.size hgr.size
  bel := (h.e0 rfl).bel h.bel hgr (by omega) h.bel.size
  mono := h.mono.grown hgr fun e => by have := hN.wd.lt _ e.symm; omega
  box := h.box.grown hgr fun e => by have := hq _ e.symm; omega
  ws := fun j hj => (h.ws j hj).grown hgr fun g hg => (hN.fs j hj g hg).2
  f0 := fun h => by cases h
  e0 := fun h => by cases h
  s2 := fun _ h => by cases h
  s3 := fun _ => ⟨(h.s3 rfl).1.grown hgr fun g hg e => by
    rcases (h.s3 rfl).2 g hg with h1 | h1
    · exact hN.fw g h1 e
    · have := hN.wd.lt _ e; omega, (h.s3 rfl).2⟩
  s9 := fun _ h => by cases h
  s11 := fun _ h => by cases h
  s12 := fun _ => ⟨(h.s12 rfl).1.grown hgr fun g hg e => by have := (h.s12 rfl).1.lt g hg; have := hN.wd.lt _ e; omega, (h.s12 rfl).2⟩
  s13 := fun _ h => by cases h
  s14 := fun _ => ⟨hown, fun g hg => by
    obtain rfl := own_eq hg
    have hsz := h.size
    refine ⟨fun e => ?_, fun e => ?_, ?_⟩
    · rcases hor with h1 | h1
      · rcases (h.s3 rfl).2 _ e with h2 | h2
        · exact hN.fw _ h2 h1
        · have := hN.wd.lt _ h1; omega
      · have := (h.s3 rfl).1.lt _ e; omega
    · rcases hor with h1 | h1
      · have := (h.s12 rfl).1.lt _ e; have := hN.wd.lt _ h1; omega
      · have := (h.s12 rfl).1.lt _ e; omega
    · rcases hor with h1 | h1
      · exact .inl h1
      · right; omega⟩
theorem S15.fin (h : S15 w0 w1 ps vs pl vF vW m u k q b2 true b9 b11 true b13 true c w) (hN : NSt n w0 ps vs pl vF vW w1) (hv : Valid m) (hp : m.p = n) (hin : m ∉ ps.map (·.1)) :
    NSt n w0 (ps ++ [(m, u ++ [(k : Int)])]) (vs ++ [c.v12]) (fun j => if j = (num m).toNat then (ps.length : Int) + 1 else pl j) c.v3 c.v14 (w.setCell ⟨w0.heap.size, 2 + (num m).toNat, none⟩ (I ((ps.length : Int) + 1))) := by
  have hb := num_bd hv
  have far : ∀ g, w0.heap.size + 1 ≤ g → (w.setCell ⟨w0.heap.size, 2 + (num m).toNat, none⟩ (I ((ps.length : Int) + 1))).heap[g]? = w.heap[g]? := fun g hg =>
    Below.heap_setCell w _ _ g (by show g ≠ w0.heap.size; omega)
  have hw1 := hN.mono.lt
  have hvl := hN.len
  refine ⟨h.bel.setCell (p := ⟨w0.heap.size, 2 + (num m).toNat, none⟩) (Nat.le_refl _) _, h.mono.setp (by omega) _, ?_, ?_, ?_, by simp [hvl], ?_, ?_, ?_, ?_⟩
  · have := hN.plc.step hv hp hin
    simpa using this
  · rw [List.map_append]
    exact (h.s3 rfl).1.keep fun g hg => far g ((h.s3 rfl).1.lt g hg).1
  · exact (h.s14 rfl).1.keep fun g hg => far g ((h.s14 rfl).1.lt g hg).1
  · intro j hj
    by_cases e : j = ps.length
    · subst e
      rw [gv_last hvl]
      have e2 : pm (ps ++ [(m, u ++ [(k : Int)])]) ps.length = (m, u ++ [(k : Int)]) := by rw [pm_eq (by simp), List.getElem_append_right (by simp)]; simp
      rw [e2]
      exact ((h.s12 rfl).1.mono (by omega)).keep fun g hg => far g (by have := ((h.s12 rfl).1.lt g hg).1; omega)
    · have hj' : j < ps.length := by simp at hj; omega
      rw [gv_app (by omega), pm_app hj']
      exact (h.ws j hj').keep fun g hg => far g ((h.ws j hj').lt g hg).1
  · intro j hj hnil
    by_cases e : j = ps.length
    · subst e
      have e2 : pm (ps ++ [(m, u ++ [(k : Int)])]) ps.length = (m, u ++ [(k : Int)]) := by rw [pm_eq (by simp), List.getElem_append_right (by simp)]; simp
      rw [e2] at hnil
      simp at hnil
    · have hj' : j < ps.length := by simp at hj; omega
      rw [pm_app hj'] at hnil
      rw [gv_app (by omega)]
      exact hN.nil_ j hj' hnil
  · intro g hg e
    exact ((h.s14 rfl).2 g e).1 hg
  · intro j hj g hg
    by_cases e : j = ps.length
    · subst e
      rw [gv_last hvl] at hg
      refine ⟨(h.s12 rfl).2 g hg, fun e => ((h.s14 rfl).2 g e).2.1 hg⟩
    · have hj' : j < ps.length := by simp at hj; omega
      rw [gv_app (by omega)] at hg
      have hl := (hN.ws j hj').lt g hg
      refine ⟨fun e => ?_, fun e => ?_⟩
      · rcases (h.s3 rfl).2 g e with h1 | h1
        · exact (hN.fs j hj' g hg).1 h1
        · omega
      · rcases ((h.s14 rfl).2 g e).2.2 with h1 | h1
        · exact (hN.fs j hj' g hg).2 h1
        · omega
end
/-! ### the monoid that is made -/
theorem grownBy_below {w w1 w' : World} {row : Option Nat} (h : w.grownBy w1 row) (hb : Below w1.heap.size w1 w') : w.grownBy w' row :=
  ⟨hb.os.trans h.os, hb.tape.trans h.tape, hb.output.trans h.output, Nat.le_trans h.size hb.size, fun k hk hne => (hb.block k (Nat.lt_of_lt_of_le hk h.size)).trans (h.block k hk hne)⟩
theorem grownBy_grown {w w1 w' : World} {row row' : Option Nat} (h : w.grownBy w1 row) (hg : w1.grownBy w' row') (hr : ∀ k, k < w.heap.size → row' = some k → row = some k) : w.grownBy w' row :=
  ⟨hg.os.trans h.os, hg.tape.trans h.tape, hg.output.trans h.output, Nat.le_trans h.size hg.size, fun k hk hne => (hg.block k (Nat.lt_of_lt_of_le hk h.size) (fun e => hne (hr k hk e.symm).symm)).trans (h.block k hk hne)⟩
theorem grownBy_set' {w w1 : World} {g o : Nat} {u : Value} (h : w.grownBy w1 (some g)) : w.grownBy (w1.setCell ⟨g, o, none⟩ u) (some g) :=
  ⟨h.os, h.tape, h.output, by simpa [World.setCell] using h.size, fun j hj hne => (Below.heap_setCell w1 _ u j (fun e => hne (by rw [e]))).trans (h.block j hj hne)⟩
theorem grownBy_bel {w0 w w' : World} {B g : Nat} (hb : Below B w0 w) (hg : w.grownBy w' (some g)) (hB : B ≤ g) (hs : B ≤ w.heap.size) : Below B w0 w' :=
  hb.grown hg hs fun k hk => by injection hk with hk; omega
structure MonAt (n : Int) (B : Nat) (g : Nat) (E : List M) (us : List (List Int)) (w : World) : Prop where
  ge : B ≤ g
  ex : ∃ ev wv pl vs, Mono w g ev wv pl ∧ Plc n E pl ∧ OwM 31 w B ev E ∧ OwV 39 w B wv vs ∧ vs.length = E.length ∧ us.length = E.length ∧ ∀ j, j < E.length → OwI 2 w B (gv vs j) (us.getD j [])
structure G23 where
  q16 : Nat
  v17 : Value
structure S23 (wS : World) (g0 : Nat) (vE wk : Value) (pl : Nat → Int) (L : List Value) (u : Value) (qb : Nat) (f : M) (b16 b17 b20 : Bool) (c : G23) (w : World) : Prop where
  gr : wS.grownBy w (some g0)
  box : b17 = false → Six w qb f
  m0 : b20 = false → Mono w g0 vE wk pl
  m1 : b20 = true → Mono w g0 vE c.v17 pl
  r0 : b17 = false → OwV 39 w wS.heap.size wk L
  r1 : b17 = true → OwV 39 w wS.heap.size c.v17 (L ++ [u])
  s16 : b16 = true → b17 = false → w.cell? ⟨c.q16, 0, none⟩ = some u ∧ c.q16 < w.heap.size
section
variable {wS w w' : World} {g0 : Nat} {vE wk : Value} {pl : Nat → Int} {L : List Value} {u : Value} {qb : Nat} {f : M} {b16 b17 b20 : Bool} {c : G23}
theorem S23.below (h : S23 wS g0 vE wk pl L u qb f b16 b17 b20 c w) (hb : Below w.heap.size w w') : S23 wS g0 vE wk pl L u qb f b16 b17 b20 c w' where
  gr := grownBy_below h.gr hb
  box := fun e => (h.box e).below hb (h.box e).lt
  m0 := fun e => (h.m0 e).below hb (h.m0 e).lt
  m1 := fun e => (h.m1 e).below hb (h.m1 e).lt
  r0 := fun e => (h.r0 e).below hb (Nat.le_refl _)
  r1 := fun e => (h.r1 e).below hb (Nat.le_refl _)
  s16 := fun e1 e2 => ⟨(hb.cell (p := ⟨c.q16, 0, none⟩) (h.s16 e1 e2).2).trans (h.s16 e1 e2).1, Nat.lt_of_lt_of_le (h.s16 e1 e2).2 hb.size⟩
theorem S23.do16 (h : S23 wS g0 vE wk pl L u qb f b16 false false c w) : S23 wS g0 vE wk pl L u qb f true false false { c with q16 := w.heap.size } (w.alloc (.cells #[u] 39)) :=
  have h' := h.below ((Below.refl w.heap.size w).alloc (Nat.le_refl _) (.cells #[u] 39))
  { h' with s16 := fun _ _ => ⟨(Blk.new w 39 #[u]).cell 0, by simp⟩, m1 := fun e => (by cases e), r1 := fun e => (by cases e) }
theorem S23.do17 (h : S23 wS g0 vE wk pl L u qb f true false false c w) (hg : g0 < wS.heap.size) {g' cap N : Nat}
    (hown : OwV 39 w' wS.heap.size (.slice (some ⟨g', 0, none⟩) N cap) (L ++ [u])) (hgr : w.grownBy w' wk.ownBlock) : S23 wS g0 vE wk pl L u qb f true true false { c with v17 := .slice (some ⟨g', 0, none⟩) N cap } w' where
  gr := grownBy_grown h.gr hgr fun k hk e => by have := ((h.r0 rfl).lt k e).1; omega
  box := fun e => by cases e
  m0 := fun _ => (h.m0 rfl).grown hgr fun e => by have := ((h.r0 rfl).lt _ e.symm).1; omega
  m1 := fun e => by cases e
  r0 := fun e => by cases e
  r1 := fun _ => hown
  s16 := fun _ e => by cases e
theorem S23.do20 (h : S23 wS g0 vE wk pl L u qb f b16 true false c w) (hg : g0 < wS.heap.size) : S23 wS g0 vE wk pl L u qb f b16 true true c (w.setCell ⟨g0, 1, none⟩ c.v17) where
  gr := grownBy_set' h.gr
  box := fun e => by cases e
  m0 := fun e => by cases e
  m1 := fun _ => (h.m0 rfl).set1 _
  r0 := fun e => by cases e
  r1 := fun _ => (h.r1 rfl).keep fun g hg' => Below.heap_setCell w _ _ g (by have := ((h.r1 rfl).lt g hg').1; show g ≠ g0; omega)
  s16 := fun _ e => by cases e
end
/-! ### what the end of the search keeps -/
structure Kept (w0 : World) (ps : Met) (vs : List Value) (E : List M) (vE vW : Value) (w : World) : Prop where
  bel : Below w0.heap.size w0 w
  lt : w0.heap.size < w.heap.size
  e : OwM 31 w (w0.heap.size + 1) vE E
  wd : OwV 39 w (w0.heap.size + 1) vW vs
  ws : ∀ j, j < ps.length → OwI 2 w (w0.heap.size + 1) (gv vs j) (pm ps j).2
section
variable {n : Int} {w0 w w' : World} {ps : Met} {vs : List Value} {pl : Nat → Int} {E F : List M} {vE vF vW : Value}
theorem Kept.grown (h : Kept w0 ps vs E vE vW w) (hg : w.grownBy w' (some w0.heap.size)) : Kept w0 ps vs E vE vW w' where
  bel := grownBy_bel h.bel hg (Nat.le_refl _) h.bel.size
  lt := Nat.lt_of_lt_of_le h.lt hg.size
  e := h.e.grown hg fun g hv e => by injection e with e; have := (h.e.lt g hv).1; omega
  wd := h.wd.grown hg fun g hv e => by injection e with e; have := (h.wd.lt g hv).1; omega
  ws := fun j hj => (h.ws j hj).grown hg fun g hv e => by injection e with e; have := ((h.ws j hj).lt g hv).1; omega
theorem Kept.below (h : Kept w0 ps vs E vE vW w) (hb : Below w.heap.size w w') : Kept w0 ps vs E vE vW w' := h.grown (grownBy_below (World.grownBy.refl w _) hb)
theorem NSt.kept {gE N c : Nat} {v : Value} (h : NSt n w0 ps vs pl vF vW w) (hW : ∀ g, vW.ownBlock = some g → g ≠ gE) (hws : ∀ j, j < ps.length → ∀ g, (gv vs j).ownBlock = some g → g ≠ gE) (hgE : w0.heap.size ≤ gE)
    (hg : (w.setCell ⟨w0.heap.size, 0, none⟩ v).grownBy w' (some gE)) (ho : OwM 31 w' (w0.heap.size + 1) (.slice (some ⟨gE, 0, none⟩) N c) E) :
    Kept w0 ps vs E (.slice (some ⟨gE, 0, none⟩) N c) vW w' := by
  have hs : (w.setCell ⟨w0.heap.size, 0, none⟩ v).heap.size = w.heap.size := by simp [World.setCell]
  have far : ∀ g, w0.heap.size + 1 ≤ g → (w.setCell ⟨w0.heap.size, 0, none⟩ v).heap[g]? = w.heap[g]? := fun g hg => Below.heap_setCell w _ _ g (by show g ≠ w0.heap.size; omega)
  refine ⟨grownBy_bel (h.bel.setCell (p := ⟨w0.heap.size, 0, none⟩) (Nat.le_refl _) v) hg hgE (by rw [hs]; exact h.bel.size), Nat.lt_of_lt_of_le (by rw [hs]; exact h.mono.lt) hg.size, ho, ?_, fun j hj => ?_⟩
  · exact (h.wd.keep fun g hv => far g (h.wd.lt g hv).1).grown hg fun g hv e => by injection e with e; exact hW g hv e.symm
  · exact ((h.ws j hj).keep fun g hv => far g ((h.ws j hj).lt g hv).1).grown hg fun g hv e => by injection e with e; exact hws j hj g hv e.symm
end
end Go.Proofs.YtchjegojcpbfpaaGreat

namespace Go.Proofs.YtchjegojcpbfpaaGreat
open Go.RowKit
set_option maxRecDepth 100000
section
variable {n : Int} {B g : Nat} {E : List M} {us : List (List Int)} {w w' : World}
theorem MonAt.below {m : Nat} (h : MonAt n B g E us w) (hb : Below m w w') (hm : w.heap.size ≤ m) : MonAt n B g E us w' := by
  obtain ⟨ge, ev, wv, pl, vs, h1, h2, h3, h4, h5, h6, h7⟩ := h
  exact ⟨ge, ev, wv, pl, vs, h1.below hb (by have := h1.lt; omega), h2, h3.below hb hm, h4.below hb hm, h5, h6, fun j hj => (h7 j hj).below hb hm⟩
theorem MonAt.lt (h : MonAt n B g E us w) : g < w.heap.size := by obtain ⟨_, ev, wv, pl, vs, h1, _⟩ := h; exact h1.lt
theorem plOf_bd (E : List M) (f : M) : 0 ≤ plOf E f ∧ plOf E f ≤ E.length := by
  unfold plOf
  split
  · rename_i h; have := ix_lt h; omega
  · omega
end
theorem place_any {n : Int} {B g : Nat} {E : List M} {us : List (List Int)} (f : M) (w : World) (h : MonAt n B g E us w) (hE : E.length ≤ 300) (hf : Valid f) (hp : f.p = n) :
    Calls Tryz.prog 100 #[.pointer (some ⟨g, 0, none⟩), .agg (mc f)] w fun e w' => e = .returned (I (plOf E f - 1)) ∧ Below w.heap.size w w' := by
  obtain ⟨_, ev, wv, pl, vs, hM, hP, _⟩ := h
  have hpl := hP f hf hp
  have nb0 := (num_bd hf).1
  have nb1 := (num_bd hf).2
  have b0 := plOf_bd E f
  obtain ⟨x, hx⟩ : ∃ x, x = plOf E f := ⟨_, rfl⟩
  rw [← hx] at hpl b0 ⊢
  have x0 := b0.1
  have x1 := b0.2
  have hw1 : IntKind.i64.wrap (x - 1) = x - 1 := IntWalk.i64_in _ ⟨by omega, by omega⟩
  have HM := Lib.hid hM
  have hgl := hM.lt
  have Hpl := Lib.hid hpl
  clear hM hP hpl hx b0
  go_enter Tryz.func100, Tryz.ntmps100
  go_wp2_with fail
  obtain ⟨wb, hwb⟩ : ∃ wb, wb = w.alloc (.cells (mc f) 31) := ⟨_, rfl⟩
  have hszb : wb.heap.size = w.heap.size + 1 := by rw [hwb]; simp
  have hbb : Below w.heap.size w wb := by rw [hwb]; exact (Below.refl _ _).alloc (Nat.le_refl _) _
  have H6 : Hid (Six wb w.heap.size f) := by show Six _ _ _; rw [hwb]; exact Blk.six (Blk.new w _ _)
  have HM3 := Lib.hid (HM.out.below hbb HM.out.lt)
  have hgM := HM3.out.lt
  have H6l := H6.out.lt
  have Hbb := Lib.hid hbb
  rw [← hwb]
  clear hwb hbb HM
  refine wp_region_same [] rfl (by kernel_rfl) (by kernel_rfl) (by kernel_rfl) (fun w' => Below wb.heap.size wb w') _
    [.pointer (some ⟨g, 0, none⟩), .agg (mc f), I (num f), .pointer (some ⟨g, 0, none⟩), .pointer (some ⟨g, 2, none⟩), .pointer (some ⟨g, 2 + (num f).toNat, none⟩), I x, I (x - 1), I (x - 1)]
    (by simp only [putAll, List.setIfInBounds_toArray, List.set_cons_succ, List.set_cons_zero]; rfl) (Below.refl _ _).drew ?hop ?hQ
  case hop =>
    refine FixBL.toL (fun w' w'' hS hb => hS.trans (hb.mono hS.size)) _ _ ?_
    refine ⟨.inr ?_, .inr ?_, .inr ?_, .inr ?_, .inr ?_, .inr ?_, .inr ?_, .inr ?_, .inr ?_, trivial⟩
    · (with_reducible refine FixB.of ?_ ?_; rfl; intro w' hS; have s0 := H6.out.below hS H6l; have s1 := (HM3.out.below hS hgM).cp (j := (num f).toNat) (by omega); rw [Hpl.out] at s1; clear hS; unfold Oper.wp; go_simp; first | done | exact Below.refl _ _)
    · (with_reducible refine FixB.of ?_ ?_; rfl; intro w' hS; have s0 := H6.out.below hS H6l; have s1 := (HM3.out.below hS hgM).cp (j := (num f).toNat) (by omega); rw [Hpl.out] at s1; clear hS; unfold Oper.wp; go_simp; first | done | exact Below.refl _ _)
    · (with_reducible refine FixB.of ?_ ?_; rfl; intro w' hS; have s3 := Lib.hid hS; unfold Oper.wp; clear hS; go_simp; refine (number_any f _ hf).mono ?_; rintro e w1 ⟨rfl, hb⟩; exact ⟨rfl, hb⟩)
    · (with_reducible refine FixB.of ?_ ?_; rfl; intro w' hS; have s0 := H6.out.below hS H6l; have s1 := (HM3.out.below hS hgM).cp (j := (num f).toNat) (by omega); rw [Hpl.out] at s1; clear hS; unfold Oper.wp; go_simp; first | done | exact Below.refl _ _)
    · (with_reducible refine FixB.of ?_ ?_; rfl; intro w' hS; have s0 := H6.out.below hS H6l; have s1 := (HM3.out.below hS hgM).cp (j := (num f).toNat) (by omega); rw [Hpl.out] at s1; clear hS; unfold Oper.wp; go_simp; first | done | exact Below.refl _ _)
    · (with_reducible refine FixB.of ?_ ?_; rfl; intro w' hS; have s0 := H6.out.below hS H6l; have s1 := (HM3.out.below hS hgM).cp (j := (num f).toNat) (by omega); rw [Hpl.out] at s1; clear hS; unfold Oper.wp; go_simp; first | done | exact Below.refl _ _)
    · (with_reducible refine FixB.of ?_ ?_; rfl; intro w' hS; have s0 := H6.out.below hS H6l; have s1 := (HM3.out.below hS hgM).cp (j := (num f).toNat) (by omega); rw [Hpl.out] at s1; clear hS; unfold Oper.wp; go_simp; first | done | exact Below.refl _ _)
    · (with_reducible refine FixB.of ?_ ?_; rfl; intro w' hS; have s0 := H6.out.below hS H6l; have s1 := (HM3.out.below hS hgM).cp (j := (num f).toNat) (by omega); rw [Hpl.out] at s1; clear hS; unfold Oper.wp; go_simp; first | done | exact Below.refl _ _)
    · (with_reducible refine FixB.of ?_ ?_; rfl; intro w' hS; have s0 := H6.out.below hS H6l; have s1 := (HM3.out.below hS hgM).cp (j := (num f).toNat) (by omega); rw [Hpl.out] at s1; clear hS; unfold Oper.wp; go_simp; first | done | exact Below.refl _ _)
  case hQ =>
    intro wc hS _
    have hB : Below w.heap.size w wc := Hbb.out.trans (hS.mono (by omega))
    clear hS
    go_wp2
    go_ret
    exact ⟨rfl, hB⟩
set_option maxRecDepth 100000
def PredC (fn : Nat) (caps : Array Value) (N : Nat) (p : Nat → Bool) (w : World) : Prop :=
  (∀ args w, (callFunc fn args).run Tryz.prog w = .ok (.enter fn args) w) ∧
  ∀ w', Below w.heap.size w w' → ∀ i, i < N → Calls Tryz.prog fn (#[I i] ++ caps) w' fun e w'' => e = .returned (.bool (p i)) ∧ Below w'.heap.size w' w''
theorem PredC.below {fn : Nat} {caps : Array Value} {N : Nat} {p : Nat → Bool} {w w' : World} (h : PredC fn caps N p w) (hb : Below w.heap.size w w') : PredC fn caps N p w' :=
  ⟨h.1, fun w2 hb2 i hi => h.2 w2 (hb.trans (hb2.mono hb.size)) i hi⟩
end Go.Proofs.YtchjegojcpbfpaaGreat

namespace Go.Proofs.YtchjegojcpbfpaaGreat
open Go.RowKit
set_option maxRecDepth 100000
theorem Asc.less {E : List M} (h : Asc E) {i k : Nat} (hi : i < k) (hk : k < E.length) : lessM (gm E i) (gm E k) = true := by
  rw [gm_eq (by omega), gm_eq hk]
  exact List.pairwise_iff_getElem.1 h i k (by omega) hk hi
structure Cut (E : List M) (f : M) (a b : Nat) : Prop where
  lo : ∀ j, j < a → lessM (gm E j) f = true
  hi : ∀ j, b ≤ j → j < E.length → lessM (gm E j) f = false
theorem Cut.up {E : List M} {f : M} {a b k : Nat} (h : Cut E f a b) (hA : Asc E) (hk : k < E.length) (hl : lessM (gm E k) f = true) : Cut E f (k + 1) b :=
  ⟨fun j hj => by
    by_cases e : j = k
    · rw [e]; exact hl
    · exact lessM_trans (hA.less (by omega) hk) hl, h.hi⟩
theorem Cut.down {E : List M} {f : M} {a b k : Nat} (h : Cut E f a b) (hA : Asc E) (hl : lessM (gm E k) f = false) : Cut E f a k :=
  ⟨h.lo, fun j hj hjl => by
    by_cases e : j = k
    · rw [e]; exact hl
    · rw [Bool.eq_false_iff]
      intro h2
      rw [lessM_trans (hA.less (by omega) hjl) h2] at hl
      cases hl⟩
theorem Cut.in_ {E : List M} {f : M} {a : Nat} (h : Cut E f a a) (hA : Asc E) (hf : f ∈ E) : a < E.length ∧ gm E a = f ∧ ix E f = a := by
  have hi := ix_lt hf
  have hg := gm_ix hf
  have h1 : ¬ ix E f < a := fun hl => by have := h.lo _ hl; rw [hg, lessM_irr] at this; cases this
  have h2 : ¬ a < ix E f := fun hl => by
    have h3 := hA.less hl hi
    rw [hg, h.hi a (Nat.le_refl _) (by omega)] at h3
    cases h3
  have e : ix E f = a := by omega
  exact ⟨by omega, by rw [← e]; exact hg, e⟩
theorem Cut.eq {E : List M} {f : M} {a : Nat} (h : Cut E f a a) (hA : Asc E) (ha : a < E.length) : gm E a = f ↔ f ∈ E :=
  ⟨fun e => by rw [← e]; exact gm_mem ha, fun hf => (h.in_ hA hf).2.1⟩
theorem l02Find_any (A : Option Addr) (N c : Nat) (E : List M) (f : M) (w : World) (hx : RdM w w.heap.size A E) (hn : E.length = N) (hN : N < 1073741824) (hA : Asc E) (hE : ∀ g ∈ E, Valid g) (hf : Valid f) :
    Calls Tryz.prog 57 #[.slice A N c, .agg (mc f)] w fun e w' => e = .returned (I (plOf E f - 1)) ∧ Below w.heap.size w w' := by
  have Hx := Lib.hid hx
  have Hn := Lib.hid hn
  have HE := Lib.hid hE
  have HA := Lib.hid hA
  clear hx hn hE hA
  go_enter Tryz.func57, Tryz.ntmps57
  go_wp2_with fail
  obtain ⟨wb, hwb⟩ : ∃ wb, wb = w.alloc (.cells (mc f) 31) := ⟨_, rfl⟩
  have H6 : Hid (Six wb w.heap.size f) := by show Six _ _ _; rw [hwb]; exact Blk.six (Blk.new w _ _)
  have Hbb : Hid (Below w.heap.size w wb) := by show Below _ _ _; rw [hwb]; exact (Below.refl _ _).alloc (Nat.le_refl _) _
  have hsb : wb.heap.size = w.heap.size + 1 := by rw [hwb]; simp
  try rw [← hwb]
  clear hwb
  go_loopw [5, 6] (fun lo hi wr => ∃ a b : Nat, lo = .int .i64 a ∧ hi = .int .i64 b ∧ a ≤ b ∧ b ≤ N ∧ Below wb.heap.size wb wr ∧ Cut E f a b) (fun lo hi _ => (intOf hi).toNat - (intOf lo).toNat)
  case atStart => exact ⟨0, N, rfl, rfl, by omega, Nat.le_refl _, Below.refl _ _, fun j hj => by omega, fun j hj hl => by rw [Hn.out] at hl; omega⟩
  case round =>
    obtain ⟨a, b, rfl, rfl, hab, hbN, hb, hC⟩ := hrel
    have Hb := Lib.hid hb
    have HC := Lib.hid hC
    have hsz := hb.size
    clear hb hC
    by_cases hlt : a < b
    · have hi : (a : Int) < (b : Int) := by omega
      obtain ⟨k, hk⟩ : ∃ k : Nat, ((a : Int) + (b : Int)) / 2 = k := ⟨(a + b) / 2, by omega⟩
      have hak : a ≤ k := by omega
      have hkb : k < b := by omega
      go_wp2_with fail
      rw [hk]
      clear hk
      obtain ⟨b2, off2, rfl, hbb2, h6⟩ := RdM.at_ (Rd.below (Rd.below Hx.out Hbb.out) (Hb.out.mono Hbb.out.size)) (k := k) (by rw [Hn.out]; omega)
      obtain ⟨g, hg⟩ : ∃ g, g = gm E k := ⟨_, rfl⟩
      rw [← hg] at h6
      have hvg : Valid g := HE.out g (by rw [hg]; exact gm_mem (by rw [Hn.out]; omega))
      have H6k := Lib.hid h6
      have hkN : (k : Int) < (N : Int) := by omega
      have h6l : b2 < wr.heap.size := by omega
      have H6w := Lib.hid (H6.out.below Hb.out (by omega))
      have h6wl : w.heap.size < wr.heap.size := by omega
      have Hg := Lib.hid hg
      clear h6 hg
      refine wp_region_same [] rfl (by kernel_rfl) (by kernel_rfl) (by kernel_rfl) (fun w' => Below wr.heap.size wr w') _
        [.slice (some ⟨b2, off2, none⟩) N c, I k, .pointer (some ⟨b2, off2 + k * 6, none⟩), .agg (mc g), .agg (mc f), .bool (lessM g f)]
        (by simp only [putAll, List.setIfInBounds_toArray, List.set_cons_succ, List.set_cons_zero]; rfl) (Below.refl _ _).drew ?hop ?hQ
      case hop =>
        refine FixBL.toL (fun w' w'' hS hb => hS.trans (hb.mono hS.size)) _ _ ?_
        refine ⟨.inr ?_, .inr ?_, .inr ?_, .inr ?_, .inr ?_, .inr ?_, trivial⟩
        · (with_reducible refine FixB.of ?_ ?_; rfl; intro w' hS; have s0 := H6k.out.below hS h6l; have s1 := H6w.out.below hS h6wl; clear hS; unfold Oper.wp; go_simp; first | done | exact Below.refl _ _)
        · (with_reducible refine FixB.of ?_ ?_; rfl; intro w' hS; have s0 := H6k.out.below hS h6l; have s1 := H6w.out.below hS h6wl; clear hS; unfold Oper.wp; go_simp; first | done | exact Below.refl _ _)
        · (with_reducible refine FixB.of ?_ ?_; rfl; intro w' hS; have s0 := H6k.out.below hS h6l; have s1 := H6w.out.below hS h6wl; clear hS; unfold Oper.wp; go_simp; first | done | exact Below.refl _ _)
        · (with_reducible refine FixB.of ?_ ?_; rfl; intro w' hS; have s0 := H6k.out.below hS h6l; have s1 := H6w.out.below hS h6wl; clear hS; unfold Oper.wp; go_simp; first | done | exact Below.refl _ _)
        · (with_reducible refine FixB.of ?_ ?_; rfl; intro w' hS; have s0 := H6k.out.below hS h6l; have s1 := H6w.out.below hS h6wl; clear hS; unfold Oper.wp; go_simp; first | done | exact Below.refl _ _)
        · (with_reducible refine FixB.of ?_ ?_; rfl; intro w' hS; have s3 := Lib.hid hS; unfold Oper.wp; clear hS; go_simp; refine (l01Less_any g f _ hvg hf).mono ?_; rintro e w1 ⟨rfl, hb⟩; exact ⟨rfl, hb⟩)
      case hQ =>
        intro wc hS _
        have Hb3 := Lib.hid (Hb.out.trans (hS.mono hsz))
        clear hS H6k H6w
        cases hl : lessM g f
        · have HC2 := Lib.hid (HC.out.down HA.out (k := k) (by rw [← Hg.out]; exact hl))
          go_wp2
          go_roundw
          case rel => exact ⟨a, k, by go_num, by go_num, by omega, by omega, Hb3.out, HC2.out⟩
          case measure => simp [intOf]; omega
        · have HC2 := Lib.hid (HC.out.up HA.out (k := k) (by rw [Hn.out]; omega) (by rw [← Hg.out]; exact hl))
          go_wp2
          go_roundw
          case rel => exact ⟨k + 1, b, by go_num, by go_num, by omega, by omega, Hb3.out, HC2.out⟩
          case measure => simp [intOf]; omega
    · obtain rfl : a = b := by omega
      have hi : ¬ ((a : Int) < (a : Int)) := by omega
      have H6w := Lib.hid (H6.out.below Hb.out (by omega))
      have h6wl : w.heap.size < wr.heap.size := by omega
      have Hbw := Lib.hid (Hbb.out.trans (Hb.out.mono Hbb.out.size))
      have b0 := plOf_bd E f
      by_cases haN : a < N
      · obtain ⟨b2, off2, rfl, hbb2, h6⟩ := RdM.at_ (Rd.below Hx.out Hbw.out) (k := a) (by rw [Hn.out]; omega)
        obtain ⟨g, hg⟩ : ∃ g, g = gm E a := ⟨_, rfl⟩
        rw [← hg] at h6
        have H6k := Lib.hid h6
        have hkN : (a : Int) < (N : Int) := by omega
        have h6l : b2 < wr.heap.size := by omega
        have heq := eqMap_run g f
        obtain ⟨d, hd⟩ : ∃ d, d = decide (g = f) := ⟨_, rfl⟩
        rw [← hd] at heq
        have Hd := Lib.hid hd
        have Hg := Lib.hid hg
        clear h6 hg hd b0
        go_wp2_with fail
        refine wp_region_same [] rfl (by kernel_rfl) (by kernel_rfl) (by kernel_rfl) (fun w' => Below wr.heap.size wr w') _
          [I a, .slice (some ⟨b2, off2, none⟩) N c, I N, .bool true, .bool true, .slice (some ⟨b2, off2, none⟩) N c, I a, .pointer (some ⟨b2, off2 + a * 6, none⟩), .agg (mc g), .agg (mc f), .bool d, .bool d]
          (by simp only [putAll, List.setIfInBounds_toArray, List.set_cons_succ, List.set_cons_zero]; rfl) (Below.refl _ _).drew ?hop ?hQ
        case hop =>
          refine FixBL.toL (fun w' w'' hS hb => hS.trans (hb.mono hS.size)) _ _ ?_
          refine ⟨.inr ?_, .inr ?_, .inr ?_, .inr ?_, .inr ?_, .inr ?_, .inr ?_, .inr ?_, .inr ?_, .inr ?_, .inr ?_, .inr ?_, trivial⟩
          · (with_reducible refine FixB.of ?_ ?_; rfl; intro w' hS; have s0 := H6k.out.below hS h6l; have s1 := H6w.out.below hS h6wl; clear hS; unfold Oper.wp; go_simp; first | done | exact Below.refl _ _)
          · (with_reducible refine FixB.of ?_ ?_; rfl; intro w' hS; have s0 := H6k.out.below hS h6l; have s1 := H6w.out.below hS h6wl; clear hS; unfold Oper.wp; go_simp; first | done | exact Below.refl _ _)
          · (with_reducible refine FixB.of ?_ ?_; rfl; intro w' hS; have s0 := H6k.out.below hS h6l; have s1 := H6w.out.below hS h6wl; clear hS; unfold Oper.wp; go_simp; first | done | exact Below.refl _ _)
          · (with_reducible refine FixB.of ?_ ?_; rfl; intro w' hS; have s0 := H6k.out.below hS h6l; have s1 := H6w.out.below hS h6wl; clear hS; unfold Oper.wp; go_simp; first | done | exact Below.refl _ _)
          · (with_reducible refine FixB.of ?_ ?_; rfl; intro w' hS; have s0 := H6k.out.below hS h6l; have s1 := H6w.out.below hS h6wl; clear hS; unfold Oper.wp; go_simp; first | done | exact Below.refl _ _)
          · (refine FixB.on (by first | rfl | kernel_rfl | (simp [Region.wanted, yielded]; done)) ?_; intro w' hS; have s0 := H6k.out.below hS h6l; have s1 := H6w.out.below hS h6wl; clear hS; unfold Oper.wp; go_simp; first | done | exact Below.refl _ _)
          · (refine FixB.on (by first | rfl | kernel_rfl | (simp [Region.wanted, yielded]; done)) ?_; intro w' hS; have s0 := H6k.out.below hS h6l; have s1 := H6w.out.below hS h6wl; clear hS; unfold Oper.wp; go_simp; first | done | exact Below.refl _ _)
          · (refine FixB.on (by first | rfl | kernel_rfl | (simp [Region.wanted, yielded]; done)) ?_; intro w' hS; have s0 := H6k.out.below hS h6l; have s1 := H6w.out.below hS h6wl; clear hS; unfold Oper.wp; go_simp; first | done | exact Below.refl _ _)
          · (refine FixB.on (by first | rfl | kernel_rfl | (simp [Region.wanted, yielded]; done)) ?_; intro w' hS; have s0 := H6k.out.below hS h6l; have s1 := H6w.out.below hS h6wl; clear hS; unfold Oper.wp; go_simp; first | done | exact Below.refl _ _)
          · (refine FixB.on (by first | rfl | kernel_rfl | (simp [Region.wanted, yielded]; done)) ?_; intro w' hS; have s0 := H6k.out.below hS h6l; have s1 := H6w.out.below hS h6wl; clear hS; unfold Oper.wp; go_simp; first | done | exact Below.refl _ _)
          · (refine FixB.on (by first | rfl | kernel_rfl | (simp [Region.wanted, yielded]; done)) ?_; intro w' hS; have s0 := H6k.out.below hS h6l; have s1 := H6w.out.below hS h6wl; clear hS; unfold Oper.wp; go_simp; first | done | exact Below.refl _ _)
          · (with_reducible refine FixB.of ?_ ?_; rfl; intro w' hS; have s0 := H6k.out.below hS h6l; have s1 := H6w.out.below hS h6wl; clear hS; unfold Oper.wp; go_simp; first | done | exact Below.refl _ _)
        case hQ =>
          intro wc hS _
          have Hb3 := Lib.hid (Hbw.out.trans (hS.mono Hbw.out.size))
          clear hS H6k H6w heq
          have he := HC.out.eq HA.out (by rw [Hn.out]; exact haN)
          rw [← Hg.out] at he
          cases hdd : d
          · have hnf : f ∉ E := fun h => by have := Hd.out; rw [hdd, he.2 h] at this; simp at this
            have Hp : Hid (plOf E f - 1 = -1) := by show _ = _; rw [plOf_out hnf]; rfl
            clear he
            go_wp2
            go_ret
            exact ⟨by rw [Hp.out] <;> rfl, Hb3.out⟩
          · have hgf : g = f := by have := Hd.out; rw [hdd] at this; exact of_decide_eq_true this.symm
            have hin := he.1 hgf
            have Hp : Hid (plOf E f - 1 = (a : Int)) := by show _ = _; rw [plOf_in hin, (HC.out.in_ HA.out hin).2.2]; omega
            have hw1 : IntKind.i64.wrap (a : Int) = a := IntWalk.i64_in _ ⟨by omega, by omega⟩
            clear he hgf
            go_wp2
            go_ret
            exact ⟨by rw [Hp.out] <;> rfl, Hb3.out⟩
      · have hnf : f ∉ E := fun h => by have := (HC.out.in_ HA.out h).1; rw [Hn.out] at this; omega
        have Hp : Hid (plOf E f - 1 = -1) := by show _ = _; rw [plOf_out hnf]; rfl
        have hkN : ¬ ((a : Int) < (N : Int)) := by omega
        clear b0
        go_wp2_with fail
        refine wp_region_same [] rfl (by kernel_rfl) (by kernel_rfl) (by kernel_rfl) (fun w' => Below wr.heap.size wr w') _
          [I a, .slice A N c, I N, .bool false, .bool false, undef, undef, undef, undef, undef, undef, .bool false]
          (by simp only [putAll, List.setIfInBounds_toArray, List.set_cons_succ, List.set_cons_zero]; rfl) (Below.refl _ _).drew ?hop ?hQ
        case hop =>
          refine FixBL.toL (fun w' w'' hS hb => hS.trans (hb.mono hS.size)) _ _ ?_
          refine ⟨.inr ?_, .inr ?_, .inr ?_, .inr ?_, .inr ?_, .inr ?_, .inr ?_, .inr ?_, .inr ?_, .inr ?_, .inr ?_, .inr ?_, trivial⟩
          · (with_reducible refine FixB.of ?_ ?_; rfl; intro w' hS; clear hS; unfold Oper.wp; go_simp; first | done | exact Below.refl _ _)
          · (with_reducible refine FixB.of ?_ ?_; rfl; intro w' hS; clear hS; unfold Oper.wp; go_simp; first | done | exact Below.refl _ _)
          · (with_reducible refine FixB.of ?_ ?_; rfl; intro w' hS; clear hS; unfold Oper.wp; go_simp; first | done | exact Below.refl _ _)
          · (with_reducible refine FixB.of ?_ ?_; rfl; intro w' hS; clear hS; unfold Oper.wp; go_simp; first | done | exact Below.refl _ _)
          · (with_reducible refine FixB.of ?_ ?_; rfl; intro w' hS; clear hS; unfold Oper.wp; go_simp; first | done | exact Below.refl _ _)
          · exact FixB.off (by first | rfl | kernel_rfl | (simp [Region.wanted, yielded]; done)) rfl
          · exact FixB.off (by first | rfl | kernel_rfl | (simp [Region.wanted, yielded]; done)) rfl
          · exact FixB.off (by first | rfl | kernel_rfl | (simp [Region.wanted, yielded]; done)) rfl
          · exact FixB.off (by first | rfl | kernel_rfl | (simp [Region.wanted, yielded]; done)) rfl
          · exact FixB.off (by first | rfl | kernel_rfl | (simp [Region.wanted, yielded]; done)) rfl
          · exact FixB.off (by first | rfl | kernel_rfl | (simp [Region.wanted, yielded]; done)) rfl
          · (with_reducible refine FixB.of ?_ ?_; rfl; intro w' hS; clear hS; unfold Oper.wp; go_simp; first | done | exact Below.refl _ _)
        case hQ =>
          intro wc hS _
          have Hb3 := Lib.hid (Hbw.out.trans (hS.mono Hbw.out.size))
          clear hS
          go_wp2
          go_ret
          exact ⟨by rw [Hp.out] <;> rfl, Hb3.out⟩
set_option maxRecDepth 100000
theorem insM_cut {E : List M} {f : M} {a : Nat} (h : Cut E f a a) (hA : Asc E) (hf : f ∉ E) : insM f E = E.take a ++ [f] ++ E.drop a := by
  have hge : ∀ z ∈ E.drop a, lessM f z = true := fun z hz => by
    obtain ⟨j, hj, rfl⟩ := List.getElem_of_mem hz
    rw [List.length_drop] at hj
    rw [List.getElem_drop]
    have h2 := h.hi (a + j) (by omega) (by omega)
    rw [gm_eq (by omega)] at h2
    exact (lessM_tot (fun e => hf (by rw [e]; exact List.getElem_mem _))).resolve_right (by rw [h2]; simp)
  have hlt : ∀ z ∈ E.take a, lessM z f = true := fun z hz => by
    obtain ⟨j, hj, rfl⟩ := List.getElem_of_mem hz
    rw [List.length_take] at hj
    rw [List.getElem_take]
    have h2 := h.lo j (by omega)
    rwa [gm_eq (by omega)] at h2
  refine asc_ext (insM_asc hA) ?_ fun z => ?_
  · rw [List.append_assoc]
    refine List.pairwise_append.2 ⟨hA.sublist (List.take_sublist _ _), List.pairwise_cons.2 ⟨hge, hA.sublist (List.drop_sublist _ _)⟩, fun x hx y hy => ?_⟩
    rcases List.mem_cons.1 hy with rfl | hy
    · exact hlt x hx
    · exact lessM_trans (hlt x hx) (hge y hy)
  · rw [insM_mem]
    have : z ∈ E ↔ z ∈ E.take a ∨ z ∈ E.drop a := by rw [← List.mem_append, List.take_append_drop]
    rw [this, List.mem_append, List.mem_append, List.mem_singleton]
    constructor
    · rintro (h | h | h)
      · exact .inl (.inr h)
      · exact .inl (.inl h)
      · exact .inr h
    · rintro ((h | h) | h)
      · exact .inr (.inl h)
      · exact .inl h
      · exact .inr (.inr h)
theorem insM_in {E : List M} {f : M} (hA : Asc E) (hf : f ∈ E) : insM f E = E :=
  asc_ext (insM_asc hA) hA fun z => by rw [insM_mem]; exact ⟨fun h => h.elim (fun e => e ▸ hf) id, .inr⟩
theorem wp_catM {w : World} {o : Oper} {a : Act} {K : Act → World → Prop} {Q : Exit → Act → World → Prop} (s x : Operand)
    (ho : o.op = .call { callee := .builtin .append, args := #[s, x], argTypes := #[24, 24] }) (B : Nat) (v : Value) (ms xs : List M) (hs : a.eval s = v) (hown : OwM 31 w B v ms)
    (ad : Addr) (n c : Nat) (hx : a.eval x = .slice (some ad) n c) (hy : RdM w w.heap.size (some ad) xs) (hn : xs.length = n)
    (hb : ms.length + n < 1073741824) (hB : B ≤ w.heap.size)
    (h : ∀ v' w', OwM 31 w' B v' (ms ++ xs) → w.grownBy w' v.ownBlock → K (a.put o.dst v') w') : o.wp Tryz.prog a w K Q := by
  obtain ⟨i, hi, hz0, hz1, hz2⟩ := info_parts infoM
  subst hn
  refine wp_append_own w s x 24 ho B 31 i (.agg (mc M0)) 6 48 Tryz.underlying24 hi hz0 hz1 hz2 rfl (by decide) v ms.length (mcs ms) hs hown ad xs.length c (mcs xs) hx (mcs_length _) ?_ mcs_one (by unfold maxLen; omega) (by omega) hB ?_
  · intro j u hj
    have hpos : 0 < xs.length := by
      rcases Nat.eq_zero_or_pos xs.length with h0 | h0
      · rw [List.eq_nil_of_length_eq_zero h0] at hj; simp [mcs] at hj
      · exact h0
    obtain ⟨b', off', e, _, hc⟩ := hy.2 hpos
    injection e with e
    subst e
    have := hc j u hj
    unfold Addr.add
    split
    · rename_i h0; subst h0; simpa using this
    · exact this
  · intro v' w' h1 h2 _
    refine h v' w' ?_ h2
    unfold OwM
    rw [mcs_app, List.length_append]
    exact h1
theorem RdM.take {w : World} {B : Nat} {A : Option Addr} {ms : List M} (h : RdM w B A ms) (a : Nat) : RdM w B A (ms.take a) := by
  refine ⟨mcs_length _, fun hpos => ?_⟩
  have hp : 0 < ms.length := by rw [List.length_take] at hpos; omega
  obtain ⟨b, off, e, hb, hc⟩ := h.2 hp
  refine ⟨b, off, e, hb, fun j u hj => hc j u ?_⟩
  have e2 : mcs ms = mcs (ms.take a) ++ mcs (ms.drop a) := by rw [← mcs_app, List.take_append_drop]
  rw [e2, List.getElem?_append_left ((List.getElem?_eq_some_iff.1 hj).1)]
  exact hj
theorem RdM.drop {w : World} {B b off : Nat} {ms : List M} (h : RdM w B (some ⟨b, off, none⟩) ms) {a : Nat} (ha : a ≤ ms.length) : RdM w B (some ⟨b, off + a * 6, none⟩) (ms.drop a) := by
  refine ⟨mcs_length _, fun hpos => ?_⟩
  have hp : 0 < ms.length := by rw [List.length_drop] at hpos; omega
  obtain ⟨b', off', e, hb, hc⟩ := h.2 hp
  injection e with e
  injection e with e1 e2 _
  subst e1 e2
  refine ⟨_, _, rfl, hb, fun j u hj => ?_⟩
  have e2 : mcs ms = mcs (ms.take a) ++ mcs (ms.drop a) := by rw [← mcs_app, List.take_append_drop]
  have hl : (mcs (ms.take a)).length = a * 6 := by rw [mcs_length, List.length_take]; congr 1; omega
  rw [Nat.add_assoc]
  refine hc (a * 6 + j) u ?_
  rw [e2, List.getElem?_append_right (by omega), hl, Nat.add_sub_cancel_left]
  exact hj
theorem OwM.capOf {e : TypeId} {w : World} {B : Nat} {v : Value} {ms : List M} (h : OwM e w B v ms) (hpos : 0 < ms.length) : ∃ g c, v = .slice (some ⟨g, 0, none⟩) ms.length c ∧ ms.length ≤ c := by
  rcases h.2 with ⟨_, h0⟩ | ⟨g, cap, cur, rfl, _, _, hc, _⟩
  · omega
  · exact ⟨g, cap, rfl, hc⟩
structure G9 where
  q0 : Nat
  v4 : Value
  q6 : Nat
  v7 : Value
structure S9 (w1 : World) (ms : List M) (f : M) (qb : Nat) (b0 b4 b6 b7 : Bool) (c : G9) (w : World) : Prop where
  bel : Below w1.heap.size w1 w
  s0 : b0 = true → b4 = false → OwM 31 w w1.heap.size (.slice (some ⟨c.q0, 0, none⟩) 0 0) []
  s4 : b4 = true → b7 = false → OwM 31 w w1.heap.size c.v4 ms
  s6 : b6 = true → b7 = false → Six w c.q6 f ∧ w1.heap.size ≤ c.q6 ∧ (b0 = true → b4 = false → c.q6 ≠ c.q0)
  s7 : b7 = true → OwM 31 w w1.heap.size c.v7 (ms ++ [f])
section
variable {w1 w w' : World} {ms : List M} {f : M} {qb : Nat} {b0 b4 b6 b7 : Bool} {c : G9}
theorem S9.start (w1 : World) (ms : List M) (f : M) (qb : Nat) (c : G9) : S9 w1 ms f qb false false false false c w1 :=
  ⟨Below.refl _ _, fun h => (by cases h), fun h => (by cases h), fun h => (by cases h), fun h => (by cases h)⟩
theorem S9.below (h : S9 w1 ms f qb b0 b4 b6 b7 c w) (hb : Below w.heap.size w w') : S9 w1 ms f qb b0 b4 b6 b7 c w' where
  bel := h.bel.trans (hb.mono h.bel.size)
  s0 := fun e1 e2 => (h.s0 e1 e2).below hb (Nat.le_refl _)
  s4 := fun e1 e2 => (h.s4 e1 e2).below hb (Nat.le_refl _)
  s6 := fun e1 e2 => ⟨(h.s6 e1 e2).1.below hb (h.s6 e1 e2).1.lt, (h.s6 e1 e2).2⟩
  s7 := fun e => (h.s7 e).below hb (Nat.le_refl _)
theorem S9.do0 (h : S9 w1 ms f qb false false b6 false c w) : S9 w1 ms f qb true false b6 false { c with q0 := w.heap.size } (w.alloc (.cells #[] 31)) :=
  have h' := h.below ((Below.refl w.heap.size w).alloc (Nat.le_refl _) (.cells #[] 31))
  { h' with s0 := fun _ _ => OwM.made h.bel.size, s4 := h'.s4, s6 := fun e1 e2 => ⟨(h'.s6 e1 e2).1, (h'.s6 e1 e2).2.1, fun _ _ => by have := (h.s6 e1 e2).1.lt; show c.q6 ≠ w.heap.size; omega⟩, s7 := h'.s7 }
theorem S9.do6 (h : S9 w1 ms f qb b0 b4 false false c w) : S9 w1 ms f qb b0 b4 true false { c with q6 := w.heap.size } (w.alloc (.cells (mc f) 31)) :=
  have h' := h.below ((Below.refl w.heap.size w).alloc (Nat.le_refl _) (.cells (mc f) 31))
  { h' with s0 := h'.s0, s4 := h'.s4, s6 := fun _ _ => ⟨Blk.six (Blk.new w _ _), h.bel.size, fun e1 e2 => (by have := ((h.s0 e1 e2).lt c.q0 rfl).2; show w.heap.size ≠ c.q0; omega)⟩, s7 := h'.s7 }
theorem S9.do4 (h : S9 w1 ms f qb true false b6 false c w) {v : Value} (ho : OwM 31 w' w1.heap.size v ms) (hg : w.grownBy w' (some c.q0)) : S9 w1 ms f qb true true b6 false { c with v4 := v } w' where
  bel := (h.s0 rfl rfl).bel h.bel hg (Nat.le_refl _) h.bel.size
  s0 := fun _ e => by cases e
  s4 := fun _ _ => ho
  s6 := fun e1 e2 => by
    obtain ⟨x1, x2, x3⟩ := h.s6 e1 e2
    exact ⟨x1.grown hg fun e => (by injection e with e; exact x3 rfl rfl e), x2, fun _ e => (by cases e)⟩
  s7 := fun e => by cases e
theorem S9.do7 (h : S9 w1 ms f qb true true true false c w) {v : Value} (ho : OwM 31 w' w1.heap.size v (ms ++ [f])) (hg : w.grownBy w' c.v4.ownBlock) : S9 w1 ms f qb true true true true { c with v7 := v } w' where
  bel := (h.s4 rfl rfl).bel h.bel hg (Nat.le_refl _) h.bel.size
  s0 := fun _ e => by cases e
  s4 := fun _ e => by cases e
  s6 := fun _ e => by cases e
  s7 := fun _ => ho
end
set_option maxRecDepth 100000
set_option linter.unusedSimpArgs false
theorem l01Put_any (A : Addr) (N c : Nat) (E : List M) (f : M) (w : World) (hx : RdM w w.heap.size (some A) E) (hn : E.length = N) (hNc : N ≤ c) (hN : N < 536870912) (hA : Asc E) (hE : ∀ g ∈ E, Valid g) (hf : Valid f) :
    Calls Tryz.prog 93 #[.slice (some A) N c, .agg (mc f)] w fun e w' => ∃ A' c', e = .returned (.slice (some A') (insM f E).length c') ∧ (insM f E).length ≤ c' ∧ RdM w' w'.heap.size (some A') (insM f E) ∧ (A' = A ∨ w.heap.size ≤ A'.block) ∧ Below w.heap.size w w' := by
  have Hx := Lib.hid hx
  have Hn := Lib.hid hn
  have HE := Lib.hid hE
  have HA := Lib.hid hA
  clear hx hn hE hA
  go_enter Tryz.func93, Tryz.ntmps93
  go_wp2_with fail
  obtain ⟨wb, hwb⟩ : ∃ wb, wb = w.alloc (.cells (mc f) 31) := ⟨_, rfl⟩
  have H6 : Hid (Six wb w.heap.size f) := by show Six _ _ _; rw [hwb]; exact Blk.six (Blk.new w _ _)
  have Hbb : Hid (Below w.heap.size w wb) := by show Below _ _ _; rw [hwb]; exact (Below.refl _ _).alloc (Nat.le_refl _) _
  have hsb : wb.heap.size = w.heap.size + 1 := by rw [hwb]; simp
  try rw [← hwb]
  clear hwb
  go_loopw [5, 6] (fun lo hi wr => ∃ a b : Nat, lo = .int .i64 a ∧ hi = .int .i64 b ∧ a ≤ b ∧ b ≤ N ∧ Below wb.heap.size wb wr ∧ Cut E f a b) (fun lo hi _ => (intOf hi).toNat - (intOf lo).toNat)
  case atStart => exact ⟨0, N, rfl, rfl, by omega, Nat.le_refl _, Below.refl _ _, fun j hj => by omega, fun j hj hl => by rw [Hn.out] at hl; omega⟩
  case round =>
    obtain ⟨a, b, rfl, rfl, hab, hbN, hb, hC⟩ := hrel
    have Hb := Lib.hid hb
    have HC := Lib.hid hC
    have hsz := hb.size
    clear hb hC
    by_cases hlt : a < b
    · have hi : (a : Int) < (b : Int) := by omega
      obtain ⟨k, hk⟩ : ∃ k : Nat, ((a : Int) + (b : Int)) / 2 = k := ⟨(a + b) / 2, by omega⟩
      have hak : a ≤ k := by omega
      have hkb : k < b := by omega
      go_wp2_with fail
      rw [hk]
      clear hk
      obtain ⟨b2, off2, e, hbb2, h6⟩ := RdM.at_ (Rd.below (Rd.below Hx.out Hbb.out) (Hb.out.mono Hbb.out.size)) (k := k) (by rw [Hn.out]; omega)
      injection e with e
      subst e
      obtain ⟨g, hg⟩ : ∃ g, g = gm E k := ⟨_, rfl⟩
      rw [← hg] at h6
      have hvg : Valid g := HE.out g (by rw [hg]; exact gm_mem (by rw [Hn.out]; omega))
      have H6k := Lib.hid h6
      have hkN : (k : Int) < (N : Int) := by omega
      have h6l : b2 < wr.heap.size := by omega
      have H6w := Lib.hid (H6.out.below Hb.out (by omega))
      have h6wl : w.heap.size < wr.heap.size := by omega
      have Hg := Lib.hid hg
      clear h6 hg
      refine wp_region_same [] rfl (by kernel_rfl) (by kernel_rfl) (by kernel_rfl) (fun w' => Below wr.heap.size wr w') _
        [.slice (some ⟨b2, off2, none⟩) N c, I k, .pointer (some ⟨b2, off2 + k * 6, none⟩), .agg (mc g), .agg (mc f), .bool (lessM g f)]
        (by simp only [putAll, List.setIfInBounds_toArray, List.set_cons_succ, List.set_cons_zero]; rfl) (Below.refl _ _).drew ?hop ?hQ
      case hop =>
        refine FixBL.toL (fun w' w'' hS hb => hS.trans (hb.mono hS.size)) _ _ ?_
        refine ⟨.inr ?_, .inr ?_, .inr ?_, .inr ?_, .inr ?_, .inr ?_, trivial⟩
        · (with_reducible refine FixB.of ?_ ?_; rfl; intro w' hS; have s0 := H6k.out.below hS h6l; have s1 := H6w.out.below hS h6wl; clear hS; unfold Oper.wp; go_simp; first | done | exact Below.refl _ _)
        · (with_reducible refine FixB.of ?_ ?_; rfl; intro w' hS; have s0 := H6k.out.below hS h6l; have s1 := H6w.out.below hS h6wl; clear hS; unfold Oper.wp; go_simp; first | done | exact Below.refl _ _)
        · (with_reducible refine FixB.of ?_ ?_; rfl; intro w' hS; have s0 := H6k.out.below hS h6l; have s1 := H6w.out.below hS h6wl; clear hS; unfold Oper.wp; go_simp; first | done | exact Below.refl _ _)
        · (with_reducible refine FixB.of ?_ ?_; rfl; intro w' hS; have s0 := H6k.out.below hS h6l; have s1 := H6w.out.below hS h6wl; clear hS; unfold Oper.wp; go_simp; first | done | exact Below.refl _ _)
        · (with_reducible refine FixB.of ?_ ?_; rfl; intro w' hS; have s0 := H6k.out.below hS h6l; have s1 := H6w.out.below hS h6wl; clear hS; unfold Oper.wp; go_simp; first | done | exact Below.refl _ _)
        · (with_reducible refine FixB.of ?_ ?_; rfl; intro w' hS; have s3 := Lib.hid hS; unfold Oper.wp; clear hS; go_simp; refine (l01Less_any g f _ hvg hf).mono ?_; rintro e w1 ⟨rfl, hb⟩; exact ⟨rfl, hb⟩)
      case hQ =>
        intro wc hS _
        have Hb3 := Lib.hid (Hb.out.trans (hS.mono hsz))
        clear hS H6k H6w
        cases hl : lessM g f
        · have HC2 := Lib.hid (HC.out.down HA.out (k := k) (by rw [← Hg.out]; exact hl))
          go_wp2
          go_roundw
          case rel => exact ⟨a, k, by go_num, by go_num, by omega, by omega, Hb3.out, HC2.out⟩
          case measure => simp [intOf]; omega
        · have HC2 := Lib.hid (HC.out.up HA.out (k := k) (by rw [Hn.out]; omega) (by rw [← Hg.out]; exact hl))
          go_wp2
          go_roundw
          case rel => exact ⟨k + 1, b, by go_num, by go_num, by omega, by omega, Hb3.out, HC2.out⟩
          case measure => simp [intOf]; omega
    · obtain rfl : a = b := by omega
      have hi : ¬ ((a : Int) < (a : Int)) := by omega
      have H6w := Lib.hid (H6.out.below Hb.out (by omega))
      have h6wl : w.heap.size < wr.heap.size := by omega
      have Hbw := Lib.hid (Hbb.out.trans (Hb.out.mono Hbb.out.size))
      have b0 := plOf_bd E f
      by_cases haN : a < N
      · obtain ⟨b2, off2, e, hbb2, h6⟩ := RdM.at_ (Rd.below Hx.out Hbw.out) (k := a) (by rw [Hn.out]; omega)
        injection e with e
        subst e
        obtain ⟨g, hg⟩ : ∃ g, g = gm E a := ⟨_, rfl⟩
        rw [← hg] at h6
        have H6k := Lib.hid h6
        have hkN : (a : Int) < (N : Int) := by omega
        have h6l : b2 < wr.heap.size := by omega
        have heq := eqMap_run g f
        obtain ⟨d, hd⟩ : ∃ d, d = decide (g = f) := ⟨_, rfl⟩
        rw [← hd] at heq
        have Hd := Lib.hid hd
        have Hg := Lib.hid hg
        clear h6 hg hd b0
        go_wp2_with fail
        refine wp_region_same [] rfl (by kernel_rfl) (by kernel_rfl) (by kernel_rfl) (fun w' => Below wr.heap.size wr w') _
          [I a, .slice (some ⟨b2, off2, none⟩) N c, I N, .bool true, .bool true, .slice (some ⟨b2, off2, none⟩) N c, I a, .pointer (some ⟨b2, off2 + a * 6, none⟩), .agg (mc g), .agg (mc f), .bool d, .bool d]
          (by simp only [putAll, List.setIfInBounds_toArray, List.set_cons_succ, List.set_cons_zero]; rfl) (Below.refl _ _).drew ?hop ?hQ
        case hop =>
          refine FixBL.toL (fun w' w'' hS hb => hS.trans (hb.mono hS.size)) _ _ ?_
          refine ⟨.inr ?_, .inr ?_, .inr ?_, .inr ?_, .inr ?_, .inr ?_, .inr ?_, .inr ?_, .inr ?_, .inr ?_, .inr ?_, .inr ?_, trivial⟩
          · (with_reducible refine FixB.of ?_ ?_; rfl; intro w' hS; have s0 := H6k.out.below hS h6l; have s1 := H6w.out.below hS h6wl; clear hS; unfold Oper.wp; go_simp; first | done | exact Below.refl _ _)
          · (with_reducible refine FixB.of ?_ ?_; rfl; intro w' hS; have s0 := H6k.out.below hS h6l; have s1 := H6w.out.below hS h6wl; clear hS; unfold Oper.wp; go_simp; first | done | exact Below.refl _ _)
          · (with_reducible refine FixB.of ?_ ?_; rfl; intro w' hS; have s0 := H6k.out.below hS h6l; have s1 := H6w.out.below hS h6wl; clear hS; unfold Oper.wp; go_simp; first | done | exact Below.refl _ _)
          · (with_reducible refine FixB.of ?_ ?_; rfl; intro w' hS; have s0 := H6k.out.below hS h6l; have s1 := H6w.out.below hS h6wl; clear hS; unfold Oper.wp; go_simp; first | done | exact Below.refl _ _)
          · (with_reducible refine FixB.of ?_ ?_; rfl; intro w' hS; have s0 := H6k.out.below hS h6l; have s1 := H6w.out.below hS h6wl; clear hS; unfold Oper.wp; go_simp; first | done | exact Below.refl _ _)
          · (refine FixB.on (by first | rfl | kernel_rfl | (simp [Region.wanted, yielded]; done)) ?_; intro w' hS; have s0 := H6k.out.below hS h6l; have s1 := H6w.out.below hS h6wl; clear hS; unfold Oper.wp; go_simp; first | done | exact Below.refl _ _)
          · (refine FixB.on (by first | rfl | kernel_rfl | (simp [Region.wanted, yielded]; done)) ?_; intro w' hS; have s0 := H6k.out.below hS h6l; have s1 := H6w.out.below hS h6wl; clear hS; unfold Oper.wp; go_simp; first | done | exact Below.refl _ _)
          · (refine FixB.on (by first | rfl | kernel_rfl | (simp [Region.wanted, yielded]; done)) ?_; intro w' hS; have s0 := H6k.out.below hS h6l; have s1 := H6w.out.below hS h6wl; clear hS; unfold Oper.wp; go_simp; first | done | exact Below.refl _ _)
          · (refine FixB.on (by first | rfl | kernel_rfl | (simp [Region.wanted, yielded]; done)) ?_; intro w' hS; have s0 := H6k.out.below hS h6l; have s1 := H6w.out.below hS h6wl; clear hS; unfold Oper.wp; go_simp; first | done | exact Below.refl _ _)
          · (refine FixB.on (by first | rfl | kernel_rfl | (simp [Region.wanted, yielded]; done)) ?_; intro w' hS; have s0 := H6k.out.below hS h6l; have s1 := H6w.out.below hS h6wl; clear hS; unfold Oper.wp; go_simp; first | done | exact Below.refl _ _)
          · (refine FixB.on (by first | rfl | kernel_rfl | (simp [Region.wanted, yielded]; done)) ?_; intro w' hS; have s0 := H6k.out.below hS h6l; have s1 := H6w.out.below hS h6wl; clear hS; unfold Oper.wp; go_simp; first | done | exact Below.refl _ _)
          · (with_reducible refine FixB.of ?_ ?_; rfl; intro w' hS; have s0 := H6k.out.below hS h6l; have s1 := H6w.out.below hS h6wl; clear hS; unfold Oper.wp; go_simp; first | done | exact Below.refl _ _)
        case hQ =>
          intro wc hS _
          have Hb3 := Lib.hid (Hbw.out.trans (hS.mono Hbw.out.size))
          clear H6k H6w heq
          have he := HC.out.eq HA.out (by rw [Hn.out]; exact haN)
          rw [← Hg.out] at he
          cases hdd : d
          · have hnf : f ∉ E := fun h => by have := Hd.out; rw [hdd, he.2 h] at this; simp at this
            have Hnf := Lib.hid hnf
            clear he hnf
            obtain ⟨A, hA'⟩ : ∃ A : Addr, A = ⟨b2, off2, none⟩ := ⟨_, rfl⟩
            rw [← hA'] at Hx ⊢
            clear hA'
            have hB9 : Below w.heap.size w wc := Hbw.out.trans (hS.mono Hbw.out.size)
            have hwl9 : w.heap.size < wc.heap.size := by have := hS.size; omega
            have hS9 : Below wr.heap.size wr wc := hS
            clear hS
            have Hbe := Lib.hid hB9
            have hwl : w.heap.size < wc.heap.size := hwl9
            have HRt : Hid (∀ w', Below wc.heap.size wc w' → RdM w' w'.heap.size (some A) (E.take a)) := fun w' hb' => RdM.take (Rd.more (Rd.below Hx.out (Hbe.out.trans (hb'.mono Hbe.out.size))) (Nat.le_trans Hbe.out.size hb'.size)) a
            have hEt : (E.take a).length = a := by rw [List.length_take, Hn.out]; omega
            have HEt := Lib.hid hEt
            have H6c := Lib.hid (H6.out.below (Hb.out.trans (hS9.mono hsz)) (by omega))
            have hac : a ≤ c := by omega
            have hacz : (a : Int) ≤ (c : Int) := by omega
            clear hS9 hB9 hwl9 hEt
            go_wp2_with fail
            refine wp_region_flags [] rfl (by kernel_rfl) (by kernel_rfl) [] (by kernel_rfl) _
              (fun s : G9 => [.slice (some ⟨s.q0, 0, none⟩) 0 0, .slice (some A) N c, I a, .slice (some A) a c, s.v4, .agg (mc f), .slice (some ⟨s.q6, 0, none⟩) 1 1, s.v7, s.v7])
              (by intro s; simp only [putAll, List.setIfInBounds_toArray, List.set_cons_succ, List.set_cons_zero]; rfl)
              [] rfl _
              (by intro s; simp only [setAll, List.setIfInBounds_toArray, List.set_cons_succ, List.set_cons_zero]; rfl) (by kernel_rfl)
              (fun d s w' => S9 wc (E.take a) f 0 (d 0) (d 4) (d 6) (d 7) s w')
              ⟨0, undef, 0, undef⟩ ((S9.start wc _ f 0 _).below (Below.refl _ _).drew) ?hop ?hQ
            case hop =>
              refine ⟨?_, ?_, ?_, ?_, ?_, ?_, ?_, ?_, ?_, trivial⟩
              · refine ⟨rfl, fun d s w' hd hdeps hcl hS => ?_⟩
                have d4 := hcl.down (k := 4) (j := 0) rfl (by kernel_rfl) hd
                have d7 := hcl.down (k := 7) (j := 4) rfl (by kernel_rfl) d4
                simp only [hd, d4, d7] at hS
                have hS2 := Lib.hid hS.do0
                clear hS hdeps hcl
                unfold Oper.wp
                go_simp
                refine FlagPost.own ({ s with q0 := w'.heap.size } : G9) 40 (.slice (some ⟨w'.heap.size, 0, none⟩) 0 0) rfl rfl rfl ?_ rfl
                show S9 _ _ _ _ true (d 4) (d 6) (d 7) _ _
                rw [d4, d7]
                exact hS2.out
              · refine ⟨rfl, Flag.pure (fun _ _ _ h => h) fun d c w' hd hdeps hcl hS => ?_⟩
                skip
                clear hS hdeps hcl hd
                unfold Oper.wp
                go_simp
                exact ⟨rfl, fun t ht => by injection ht with ht; subst ht; rfl, rfl⟩
              · refine ⟨rfl, Flag.pure (fun _ _ _ h => h) fun d c w' hd hdeps hcl hS => ?_⟩
                skip
                clear hS hdeps hcl hd
                unfold Oper.wp
                go_simp
                exact ⟨rfl, fun t ht => by injection ht with ht; subst ht; rfl, rfl⟩
              · refine ⟨rfl, Flag.pure (fun _ _ _ h => h) fun d c w' hd hdeps hcl hS => ?_⟩
                skip
                clear hS hdeps hcl hd
                unfold Oper.wp
                go_simp
                exact ⟨rfl, fun t ht => by injection ht with ht; subst ht; rfl, rfl⟩
              · refine ⟨rfl, fun d s w' hd hdeps hcl hS => ?_⟩
                have d0 := hdeps 0 (by kernel_rfl)
                have d7 := hcl.down (k := 7) (j := 4) rfl (by kernel_rfl) hd
                simp only [d0, hd, d7] at hS
                refine wp_catM (.tmp 40) (.tmp 43) rfl wc.heap.size (.slice (some ⟨s.q0, 0, none⟩) 0 0) [] (E.take a) rfl (hS.s0 rfl rfl) A a c rfl (HRt.out _ hS.bel) HEt.out (by simp; omega) hS.bel.size ?_
                intro v' w2 ho hg
                refine FlagPost.own ({ s with v4 := v' } : G9) 44 v' rfl rfl rfl ?_ rfl
                show S9 _ _ _ _ (d 0) true (d 6) (d 7) _ _
                rw [d0, d7]
                exact hS.do4 (by simpa using ho) hg
              · refine ⟨rfl, Flag.pure (fun _ _ _ h => h) fun d c w' hd hdeps hcl hS => ?_⟩
                have s0 := H6c.out.below hS.bel hwl
                clear hS hdeps hcl hd
                unfold Oper.wp
                go_simp
                exact ⟨rfl, fun t ht => by injection ht with ht; subst ht; rfl, rfl⟩
              · refine ⟨rfl, fun d s w' hd hdeps hcl hS => ?_⟩
                have d7 := hcl.down (k := 7) (j := 6) rfl (by kernel_rfl) hd
                simp only [hd, d7] at hS
                have hS2 := Lib.hid hS.do6
                clear hS hdeps hcl
                unfold Oper.wp
                go_simp
                refine FlagPost.own ({ s with q6 := w'.heap.size } : G9) 46 (.slice (some ⟨w'.heap.size, 0, none⟩) 1 1) rfl rfl rfl ?_ rfl
                show S9 _ _ _ _ (d 0) (d 4) true (d 7) _ _
                rw [d7]
                exact hS2.out
              · refine ⟨rfl, fun d s w' hd hdeps hcl hS => ?_⟩
                have d4 := hdeps 4 (by kernel_rfl)
                have d6 := hdeps 6 (by kernel_rfl)
                have d0 := hcl.up (k := 4) (j := 0) rfl (by kernel_rfl) d4
                simp only [d0, d4, d6, hd] at hS
                refine wp_pushM (.tmp 44) (.tmp 46) rfl wc.heap.size s.v4 (E.take a) rfl (hS.s4 rfl rfl) s.q6 1 f rfl (hS.s6 rfl rfl).1 (by rw [HEt.out]; omega) hS.bel.size ?_
                intro g' cap w2 hown hgr _ _
                refine FlagPost.two ({ s with v7 := .slice (some ⟨g', 0, none⟩) ((E.take a).length + 1) cap } : G9) 47 (.slice (some ⟨g', 0, none⟩) ((E.take a).length + 1) cap) 8 _ 8 rfl rfl rfl ?_ rfl rfl rfl (by decide) (hcl.down (k := 8) (j := 7) rfl (by kernel_rfl) hd)
                show S9 _ _ _ _ (d 0) (d 4) (d 6) true _ _
                rw [d0, d4, d6]
                exact hS.do7 hown hgr
              · refine ⟨rfl, Flag.pure (fun _ _ _ h => h) fun d c w' hd hdeps hcl hS => ?_⟩
                skip
                clear hS hdeps hcl hd
                unfold Oper.wp
                go_simp
                exact ⟨rfl, fun t ht => by injection ht with ht; subst ht; rfl, rfl⟩
            case hQ =>
              intro d s we hall hS
              have hS : S9 wc (E.take a) f 0 (d 0) (d 4) (d 6) (d 7) s we := hS
              rw [hall 0 (by decide), hall 4 (by decide), hall 6 (by decide), hall 7 (by decide)] at hS
              clear hall
              obtain ⟨q0, v4, q6, v7⟩ := s
              have h7 := hS.s7 rfl
              obtain ⟨g7, c7, e⟩ := h7.some_ (by simp)
              simp only at e h7
              subst e
              have hl7 : (E.take a ++ [f]).length = a + 1 := by rw [List.length_append, HEt.out]; rfl
              rw [hl7] at h7 ⊢
              have H7 := Lib.hid h7
              have HBw := Lib.hid (Hbe.out.trans (hS.bel.mono Hbe.out.size))
              have hwe := hS.bel.size
              clear h7 hS
              have hdl : (E.drop a).length = N - a := by rw [List.length_drop, Hn.out]
              have Hdl := Lib.hid hdl
              have HRd := Lib.hid (Rd.more (Rd.below Hx.out HBw.out) HBw.out.size)
              have Hins := Lib.hid (insM_cut HC.out HA.out Hnf.out)
              clear hdl hl7
              by_cases hca : c = a
              · have hNa : N = a := by omega
                have hdr : E.drop a = [] := List.drop_eq_nil_of_le (by rw [Hn.out]; omega)
                have HRd2 : Hid (RdM we we.heap.size (some A) (E.drop a)) := by
                  show RdM _ _ _ _
                  rw [hdr]; exact ⟨rfl, fun h => absurd h (by simp)⟩
                clear hdr
                subst hca
                subst hNa
                have Hd0 : Hid ((E.drop N).length = 0) := by show _ = _; rw [Hdl.out]; omega
                go_wp2_with (at_builtin; refine wpList_catM rfl (.tmp 48) (.tmp 51) rfl wc.heap.size (.slice (some ⟨g7, 0, none⟩) (N + 1) c7) (E.take N ++ [f]) (E.drop N) rfl H7.out (some A) 0 0 rfl (fun h => (by cases h)) HRd2.out Hd0.out (by rw [List.length_append, HEt.out]; simp; omega) hwe ?_; intro v' w4 ho' hgr)
                have hB4 := H7.out.bel HBw.out hgr (by omega) (by omega)
                rw [← Hins.out] at ho'
                obtain ⟨g8, c8, e8, hc8⟩ := ho'.capOf (by rw [Hins.out]; simp; omega)
                subst e8
                have Hc8 := Lib.hid hc8
                have Hg8 : w.heap.size ≤ g8 := Nat.le_trans Hbe.out.size (ho'.lt g8 rfl).1
                have HR8 := Lib.hid ho'.rd
                have HB4 := Lib.hid hB4
                clear ho' hgr hB4 hc8
                go_wp2
                go_ret
                exact ⟨⟨g8, 0, none⟩, c8, rfl, Hc8.out, HR8.out, .inr Hg8, HB4.out⟩
              · have hca2 : ¬ ((c : Int) = (a : Int)) := by omega
                obtain ⟨Ab, Ao, At⟩ := A
                have hRd2 : RdM we we.heap.size (some (Addr.add ⟨Ab, Ao, At⟩ (a * 6))) (E.drop a) := by
                  refine ⟨mcs_length _, fun hpos => ?_⟩
                  obtain ⟨b', off', e, hb', hc'⟩ := HRd.out.2 (by rw [List.length_drop] at hpos; omega)
                  injection e with e
                  injection e with e1 e2 e3
                  subst e1 e2 e3
                  have hd := RdM.drop HRd.out (a := a) (by rw [Hn.out]; omega)
                  have h2 := hd.2 hpos
                  unfold Addr.add
                  split
                  · rename_i h0; rw [h0, Nat.add_zero] at h2; exact h2
                  · exact h2
                have HRd2 := Lib.hid hRd2
                clear hRd2
                go_wp2_with (at_builtin; refine wpList_catM rfl (.tmp 48) (.tmp 51) rfl wc.heap.size (.slice (some ⟨g7, 0, none⟩) (a + 1) c7) (E.take a ++ [f]) (E.drop a) rfl H7.out (some (Addr.add ⟨Ab, Ao, At⟩ (a * 6))) (N - a) (c - a) rfl (fun h => (by cases h)) HRd2.out Hdl.out (by rw [List.length_append, HEt.out]; simp; omega) hwe ?_; intro v' w4 ho' hgr)
                have hB4 := H7.out.bel HBw.out hgr (by omega) (by omega)
                rw [← Hins.out] at ho'
                obtain ⟨g8, c8, e8, hc8⟩ := ho'.capOf (by rw [Hins.out]; simp; omega)
                subst e8
                have Hc8 := Lib.hid hc8
                have Hg8 : w.heap.size ≤ g8 := Nat.le_trans Hbe.out.size (ho'.lt g8 rfl).1
                have HR8 := Lib.hid ho'.rd
                have HB4 := Lib.hid hB4
                clear ho' hgr hB4 hc8
                go_wp2
                go_ret
                exact ⟨⟨g8, 0, none⟩, c8, rfl, Hc8.out, HR8.out, .inr Hg8, HB4.out⟩
          · have hgf : g = f := by have := Hd.out; rw [hdd] at this; exact of_decide_eq_true this.symm
            have hin := he.1 hgf
            clear hS
            have Hp : Hid (insM f E = E) := insM_in HA.out hin
            have Hr := Lib.hid (Rd.more (Rd.below Hx.out Hb3.out) Hb3.out.size)
            clear he hgf
            go_wp2
            go_ret
            refine ⟨⟨b2, off2, none⟩, c, ?_, ?_, ?_, .inl rfl, Hb3.out⟩
            · rw [Hp.out, Hn.out]; rfl
            · rw [Hp.out, Hn.out]; exact hNc
            · rw [Hp.out]; exact Hr.out
      · have hnf : f ∉ E := fun h => by have := (HC.out.in_ HA.out h).1; rw [Hn.out] at this; omega
        have Hnf := Lib.hid hnf
        have hkN : ¬ ((a : Int) < (N : Int)) := by omega
        clear b0
        go_wp2_with fail
        refine wp_region_same [] rfl (by kernel_rfl) (by kernel_rfl) (by kernel_rfl) (fun w' => Below wr.heap.size wr w') _
          [I a, .slice (some A) N c, I N, .bool false, .bool false, undef, undef, undef, undef, undef, undef, .bool false]
          (by simp only [putAll, List.setIfInBounds_toArray, List.set_cons_succ, List.set_cons_zero]; rfl) (Below.refl _ _).drew ?hop ?hQ
        case hop =>
          refine FixBL.toL (fun w' w'' hS hb => hS.trans (hb.mono hS.size)) _ _ ?_
          refine ⟨.inr ?_, .inr ?_, .inr ?_, .inr ?_, .inr ?_, .inr ?_, .inr ?_, .inr ?_, .inr ?_, .inr ?_, .inr ?_, .inr ?_, trivial⟩
          · (with_reducible refine FixB.of ?_ ?_; rfl; intro w' hS; clear hS; unfold Oper.wp; go_simp; first | done | exact Below.refl _ _)
          · (with_reducible refine FixB.of ?_ ?_; rfl; intro w' hS; clear hS; unfold Oper.wp; go_simp; first | done | exact Below.refl _ _)
          · (with_reducible refine FixB.of ?_ ?_; rfl; intro w' hS; clear hS; unfold Oper.wp; go_simp; first | done | exact Below.refl _ _)
          · (with_reducible refine FixB.of ?_ ?_; rfl; intro w' hS; clear hS; unfold Oper.wp; go_simp; first | done | exact Below.refl _ _)
          · (with_reducible refine FixB.of ?_ ?_; rfl; intro w' hS; clear hS; unfold Oper.wp; go_simp; first | done | exact Below.refl _ _)
          · exact FixB.off (by first | rfl | kernel_rfl | (simp [Region.wanted, yielded]; done)) rfl
          · exact FixB.off (by first | rfl | kernel_rfl | (simp [Region.wanted, yielded]; done)) rfl
          · exact FixB.off (by first | rfl | kernel_rfl | (simp [Region.wanted, yielded]; done)) rfl
          · exact FixB.off (by first | rfl | kernel_rfl | (simp [Region.wanted, yielded]; done)) rfl
          · exact FixB.off (by first | rfl | kernel_rfl | (simp [Region.wanted, yielded]; done)) rfl
          · exact FixB.off (by first | rfl | kernel_rfl | (simp [Region.wanted, yielded]; done)) rfl
          · (with_reducible refine FixB.of ?_ ?_; rfl; intro w' hS; clear hS; unfold Oper.wp; go_simp; first | done | exact Below.refl _ _)
        case hQ =>
          intro wc hS _
          have hB9 : Below w.heap.size w wc := Hbw.out.trans (hS.mono Hbw.out.size)
          have hwl9 : w.heap.size < wc.heap.size := by have := hS.size; omega
          have hS9 : Below wr.heap.size wr wc := hS
          clear hS
          have Hbe := Lib.hid hB9
          have hwl : w.heap.size < wc.heap.size := hwl9
          have HRt : Hid (∀ w', Below wc.heap.size wc w' → RdM w' w'.heap.size (some A) (E.take a)) := fun w' hb' => RdM.take (Rd.more (Rd.below Hx.out (Hbe.out.trans (hb'.mono Hbe.out.size))) (Nat.le_trans Hbe.out.size hb'.size)) a
          have hEt : (E.take a).length = a := by rw [List.length_take, Hn.out]; omega
          have HEt := Lib.hid hEt
          have H6c := Lib.hid (H6.out.below (Hb.out.trans (hS9.mono hsz)) (by omega))
          have hac : a ≤ c := by omega
          have hacz : (a : Int) ≤ (c : Int) := by omega
          clear hS9 hB9 hwl9 hEt
          go_wp2_with fail
          refine wp_region_flags [] rfl (by kernel_rfl) (by kernel_rfl) [] (by kernel_rfl) _
            (fun s : G9 => [.slice (some ⟨s.q0, 0, none⟩) 0 0, .slice (some A) N c, I a, .slice (some A) a c, s.v4, .agg (mc f), .slice (some ⟨s.q6, 0, none⟩) 1 1, s.v7, s.v7])
            (by intro s; simp only [putAll, List.setIfInBounds_toArray, List.set_cons_succ, List.set_cons_zero]; rfl)
            [] rfl _
            (by intro s; simp only [setAll, List.setIfInBounds_toArray, List.set_cons_succ, List.set_cons_zero]; rfl) (by kernel_rfl)
            (fun d s w' => S9 wc (E.take a) f 0 (d 0) (d 4) (d 6) (d 7) s w')
            ⟨0, undef, 0, undef⟩ ((S9.start wc _ f 0 _).below (Below.refl _ _).drew) ?hop ?hQ
          case hop =>
            refine ⟨?_, ?_, ?_, ?_, ?_, ?_, ?_, ?_, ?_, trivial⟩
            · refine ⟨rfl, fun d s w' hd hdeps hcl hS => ?_⟩
              have d4 := hcl.down (k := 4) (j := 0) rfl (by kernel_rfl) hd
              have d7 := hcl.down (k := 7) (j := 4) rfl (by kernel_rfl) d4
              simp only [hd, d4, d7] at hS
              have hS2 := Lib.hid hS.do0
              clear hS hdeps hcl
              unfold Oper.wp
              go_simp
              refine FlagPost.own ({ s with q0 := w'.heap.size } : G9) 40 (.slice (some ⟨w'.heap.size, 0, none⟩) 0 0) rfl rfl rfl ?_ rfl
              show S9 _ _ _ _ true (d 4) (d 6) (d 7) _ _
              rw [d4, d7]
              exact hS2.out
            · refine ⟨rfl, Flag.pure (fun _ _ _ h => h) fun d c w' hd hdeps hcl hS => ?_⟩
              skip
              clear hS hdeps hcl hd
              unfold Oper.wp
              go_simp
              exact ⟨rfl, fun t ht => by injection ht with ht; subst ht; rfl, rfl⟩
            · refine ⟨rfl, Flag.pure (fun _ _ _ h => h) fun d c w' hd hdeps hcl hS => ?_⟩
              skip
              clear hS hdeps hcl hd
              unfold Oper.wp
              go_simp
              exact ⟨rfl, fun t ht => by injection ht with ht; subst ht; rfl, rfl⟩
            · refine ⟨rfl, Flag.pure (fun _ _ _ h => h) fun d c w' hd hdeps hcl hS => ?_⟩
              skip
              clear hS hdeps hcl hd
              unfold Oper.wp
              go_simp
              exact ⟨rfl, fun t ht => by injection ht with ht; subst ht; rfl, rfl⟩
            · refine ⟨rfl, fun d s w' hd hdeps hcl hS => ?_⟩
              have d0 := hdeps 0 (by kernel_rfl)
              have d7 := hcl.down (k := 7) (j := 4) rfl (by kernel_rfl) hd
              simp only [d0, hd, d7] at hS
              refine wp_catM (.tmp 40) (.tmp 43) rfl wc.heap.size (.slice (some ⟨s.q0, 0, none⟩) 0 0) [] (E.take a) rfl (hS.s0 rfl rfl) A a c rfl (HRt.out _ hS.bel) HEt.out (by simp; omega) hS.bel.size ?_
              intro v' w2 ho hg
              refine FlagPost.own ({ s with v4 := v' } : G9) 44 v' rfl rfl rfl ?_ rfl
              show S9 _ _ _ _ (d 0) true (d 6) (d 7) _ _
              rw [d0, d7]
              exact hS.do4 (by simpa using ho) hg
            · refine ⟨rfl, Flag.pure (fun _ _ _ h => h) fun d c w' hd hdeps hcl hS => ?_⟩
              have s0 := H6c.out.below hS.bel hwl
              clear hS hdeps hcl hd
              unfold Oper.wp
              go_simp
              exact ⟨rfl, fun t ht => by injection ht with ht; subst ht; rfl, rfl⟩
            · refine ⟨rfl, fun d s w' hd hdeps hcl hS => ?_⟩
              have d7 := hcl.down (k := 7) (j := 6) rfl (by kernel_rfl) hd
              simp only [hd, d7] at hS
              have hS2 := Lib.hid hS.do6
              clear hS hdeps hcl
              unfold Oper.wp
              go_simp
              refine FlagPost.own ({ s with q6 := w'.heap.size } : G9) 46 (.slice (some ⟨w'.heap.size, 0, none⟩) 1 1) rfl rfl rfl ?_ rfl
              show S9 _ _ _ _ (d 0) (d 4) true (d 7) _ _
              rw [d7]
              exact hS2.out
            · refine ⟨rfl, fun d s w' hd hdeps hcl hS => ?_⟩
              have d4 := hdeps 4 (by kernel_rfl)
              have d6 := hdeps 6 (by kernel_rfl)
              have d0 := hcl.up (k := 4) (j := 0) rfl (by kernel_rfl) d4
              simp only [d0, d4, d6, hd] at hS
              refine wp_pushM (.tmp 44) (.tmp 46) rfl wc.heap.size s.v4 (E.take a) rfl (hS.s4 rfl rfl) s.q6 1 f rfl (hS.s6 rfl rfl).1 (by rw [HEt.out]; omega) hS.bel.size ?_
              intro g' cap w2 hown hgr _ _
              refine FlagPost.two ({ s with v7 := .slice (some ⟨g', 0, none⟩) ((E.take a).length + 1) cap } : G9) 47 (.slice (some ⟨g', 0, none⟩) ((E.take a).length + 1) cap) 8 _ 8 rfl rfl rfl ?_ rfl rfl rfl (by decide) (hcl.down (k := 8) (j := 7) rfl (by kernel_rfl) hd)
              show S9 _ _ _ _ (d 0) (d 4) (d 6) true _ _
              rw [d0, d4, d6]
              exact hS.do7 hown hgr
            · refine ⟨rfl, Flag.pure (fun _ _ _ h => h) fun d c w' hd hdeps hcl hS => ?_⟩
              skip
              clear hS hdeps hcl hd
              unfold Oper.wp
              go_simp
              exact ⟨rfl, fun t ht => by injection ht with ht; subst ht; rfl, rfl⟩
          case hQ =>
            intro d s we hall hS
            have hS : S9 wc (E.take a) f 0 (d 0) (d 4) (d 6) (d 7) s we := hS
            rw [hall 0 (by decide), hall 4 (by decide), hall 6 (by decide), hall 7 (by decide)] at hS
            clear hall
            obtain ⟨q0, v4, q6, v7⟩ := s
            have h7 := hS.s7 rfl
            obtain ⟨g7, c7, e⟩ := h7.some_ (by simp)
            simp only at e h7
            subst e
            have hl7 : (E.take a ++ [f]).length = a + 1 := by rw [List.length_append, HEt.out]; rfl
            rw [hl7] at h7 ⊢
            have H7 := Lib.hid h7
            have HBw := Lib.hid (Hbe.out.trans (hS.bel.mono Hbe.out.size))
            have hwe := hS.bel.size
            clear h7 hS
            have hdl : (E.drop a).length = N - a := by rw [List.length_drop, Hn.out]
            have Hdl := Lib.hid hdl
            have HRd := Lib.hid (Rd.more (Rd.below Hx.out HBw.out) HBw.out.size)
            have Hins := Lib.hid (insM_cut HC.out HA.out Hnf.out)
            clear hdl hl7
            by_cases hca : c = a
            · have hNa : N = a := by omega
              have hdr : E.drop a = [] := List.drop_eq_nil_of_le (by rw [Hn.out]; omega)
              have HRd2 : Hid (RdM we we.heap.size (some A) (E.drop a)) := by
                show RdM _ _ _ _
                rw [hdr]; exact ⟨rfl, fun h => absurd h (by simp)⟩
              clear hdr
              subst hca
              subst hNa
              have Hd0 : Hid ((E.drop N).length = 0) := by show _ = _; rw [Hdl.out]; omega
              go_wp2_with (at_builtin; refine wpList_catM rfl (.tmp 48) (.tmp 51) rfl wc.heap.size (.slice (some ⟨g7, 0, none⟩) (N + 1) c7) (E.take N ++ [f]) (E.drop N) rfl H7.out (some A) 0 0 rfl (fun h => (by cases h)) HRd2.out Hd0.out (by rw [List.length_append, HEt.out]; simp; omega) hwe ?_; intro v' w4 ho' hgr)
              have hB4 := H7.out.bel HBw.out hgr (by omega) (by omega)
              rw [← Hins.out] at ho'
              obtain ⟨g8, c8, e8, hc8⟩ := ho'.capOf (by rw [Hins.out]; simp; omega)
              subst e8
              have Hc8 := Lib.hid hc8
              have Hg8 : w.heap.size ≤ g8 := Nat.le_trans Hbe.out.size (ho'.lt g8 rfl).1
              have HR8 := Lib.hid ho'.rd
              have HB4 := Lib.hid hB4
              clear ho' hgr hB4 hc8
              go_wp2
              go_ret
              exact ⟨⟨g8, 0, none⟩, c8, rfl, Hc8.out, HR8.out, .inr Hg8, HB4.out⟩
            · have hca2 : ¬ ((c : Int) = (a : Int)) := by omega
              obtain ⟨Ab, Ao, At⟩ := A
              have hRd2 : RdM we we.heap.size (some (Addr.add ⟨Ab, Ao, At⟩ (a * 6))) (E.drop a) := by
                refine ⟨mcs_length _, fun hpos => ?_⟩
                obtain ⟨b', off', e, hb', hc'⟩ := HRd.out.2 (by rw [List.length_drop] at hpos; omega)
                injection e with e
                injection e with e1 e2 e3
                subst e1 e2 e3
                have hd := RdM.drop HRd.out (a := a) (by rw [Hn.out]; omega)
                have h2 := hd.2 hpos
                unfold Addr.add
                split
                · rename_i h0; rw [h0, Nat.add_zero] at h2; exact h2
                · exact h2
              have HRd2 := Lib.hid hRd2
              clear hRd2
              go_wp2_with (at_builtin; refine wpList_catM rfl (.tmp 48) (.tmp 51) rfl wc.heap.size (.slice (some ⟨g7, 0, none⟩) (a + 1) c7) (E.take a ++ [f]) (E.drop a) rfl H7.out (some (Addr.add ⟨Ab, Ao, At⟩ (a * 6))) (N - a) (c - a) rfl (fun h => (by cases h)) HRd2.out Hdl.out (by rw [List.length_append, HEt.out]; simp; omega) hwe ?_; intro v' w4 ho' hgr)
              have hB4 := H7.out.bel HBw.out hgr (by omega) (by omega)
              rw [← Hins.out] at ho'
              obtain ⟨g8, c8, e8, hc8⟩ := ho'.capOf (by rw [Hins.out]; simp; omega)
              subst e8
              have Hc8 := Lib.hid hc8
              have Hg8 : w.heap.size ≤ g8 := Nat.le_trans Hbe.out.size (ho'.lt g8 rfl).1
              have HR8 := Lib.hid ho'.rd
              have HB4 := Lib.hid hB4
              clear ho' hgr hB4 hc8
              go_wp2
              go_ret
              exact ⟨⟨g8, 0, none⟩, c8, rfl, Hc8.out, HR8.out, .inr Hg8, HB4.out⟩
set_option maxRecDepth 100000
theorem cI_app (xs ys : List Int) : cI (xs ++ ys) = cI xs ++ cI ys := by simp [cI]
theorem cI_one {zs : List Int} : ∀ u ∈ cI zs, u.oneCell' = true := by
  intro u hu
  obtain ⟨z, _, rfl⟩ := List.mem_map.1 hu
  rfl
theorem wpList_catI {w : World} {ops : Array Oper} {rest : List Oper} {o : Oper} {a : Act} {Q : Exit → Act → World → Prop} (hgd : o.guard = none) (s x : Operand)
    (ho : o.op = .call { callee := .builtin .append, args := #[s, x], argTypes := #[39, 39] }) (B : Nat) (v : Value) (ms xs : List Int) (hs : a.eval s = v) (hown : OwI 2 w B v ms)
    (A : Option Addr) (n c : Nat) (hx : a.eval x = .slice A n c) (hA : A = none → n = 0 ∧ c = 0) (hy : RdI w w.heap.size A xs) (hn : xs.length = n)
    (hb : ms.length + n < 1073741824) (hB : B ≤ w.heap.size)
    (h : ∀ v' w', OwI 2 w' B v' (ms ++ xs) → w.grownBy w' v.ownBlock → wpList Tryz.prog ops Q rest (a.put o.dst v') w') : wpList Tryz.prog ops Q (o :: rest) a w := by
  obtain ⟨i, hi, hz0, hz1, hz2⟩ := info_parts infoI
  subst hn
  cases A with
  | none =>
    obtain ⟨h0, rfl⟩ := hA rfl
    obtain rfl : xs = [] := List.eq_nil_of_length_eq_zero h0
    refine wpList_append_own_none hgd s x 39 ho B 2 i 1 Tryz.underlying39 hi v ms.length (cI ms) hs hown hx ?_
    exact h v w (by rw [List.append_nil]; exact hown) (World.grownBy.refl w _)
  | some ad =>
    refine wpList_append_own w hgd s x 39 ho B 2 i (.int .i64 0) 1 8 Tryz.underlying39 hi hz0 hz1 hz2 rfl (by decide) v ms.length (cI ms) hs hown ad xs.length c (cI xs) hx (by rw [cI_length]; omega) ?_ cI_one (by unfold maxLen; omega) (by omega) hB ?_
    · intro j u hj
      have hpos : 0 < xs.length := by
        rcases Nat.eq_zero_or_pos xs.length with h0 | h0
        · rw [List.eq_nil_of_length_eq_zero h0] at hj; simp [cI] at hj
        · exact h0
      obtain ⟨b', off', e, _, hc⟩ := hy.2 hpos
      injection e with e
      subst e
      have := hc j u hj
      unfold Addr.add
      split
      · rename_i h0; subst h0; simpa using this
      · exact this
    · intro v' w' h1 h2 _
      refine h v' w' ?_ h2
      unfold OwI
      rw [cI_app, List.length_append]
      exact h1
theorem OwI.nilA {e : TypeId} {w : World} {B n c : Nat} {A : Option Addr} {zs : List Int} (h : OwI e w B (.slice A n c) zs) : A = none → n = 0 ∧ c = 0 := by
  rintro rfl
  rcases h.2 with ⟨he, _⟩ | ⟨g, cap, cur, he, _⟩
  · injection he with _ h1 h2
    exact ⟨h1, h2⟩
  · injection he with h1 _ _
    cases h1
theorem l01Own_any (A : Option Addr) (n c : Nat) (zs : List Int) (w : World) (hA : A = none → n = 0 ∧ c = 0) (hy : RdI w w.heap.size A zs) (hn : zs.length = n) (hb : n < 1073741824) :
    Calls Tryz.prog 110 #[.slice A n c] w fun e w' => ∃ v, e = .returned v ∧ OwI 2 w' w.heap.size v zs ∧ Below w.heap.size w w' := by
  have Hy := Lib.hid hy
  have Hn := Lib.hid hn
  have HA := Lib.hid hA
  clear hy hn hA
  go_enter Tryz.func110, Tryz.ntmps110
  go_wp2_with (at_builtin; refine wpList_catI rfl (.tmp 3) (.tmp 4) rfl w.heap.size _ [] zs rfl (OwI.made' rfl (Nat.le_refl _)) A n c rfl HA.out (Rd.more (Rd.alloc Hy.out (Nat.le_refl _) _) (by simp)) Hn.out (by simp; omega) (by simp) ?_; intro v' w1 hown' hgr)
  have hbel : Below w.heap.size w w1 := (OwI.made' rfl (Nat.le_refl _) : OwI 2 (w.alloc (.cells #[] 2)) w.heap.size _ []).bel (by (repeat (first | with_reducible assumption | with_reducible exact Below.refl _ _ | with_reducible refine Below.setCell ?_ (by first | omega | (simp <;> omega)) _ | with_reducible refine Below.alloc ?_ (by first | omega | (simp <;> omega)) _ | with_reducible refine Below.drew ?_ | with_reducible refine Below.drewN ?_ _))) hgr (Nat.le_refl _) (by simp)
  have ho2 := hown'
  rw [List.nil_append] at ho2
  go_ret
  exact ⟨v', rfl, ho2, hbel⟩
theorem wpList_pushV {w : World} {ops : Array Oper} {rest : List Oper} {o : Oper} {a : Act} {Q : Exit → Act → World → Prop} (hgd : o.guard = none) (s x : Operand)
    (ho : o.op = .call { callee := .builtin .append, args := #[s, x], argTypes := #[61, 61] }) (B : Nat) (v : Value) (vs : List Value) (hs : a.eval s = v) (hown : OwV 39 w B v vs) (n : Nat) (hlen : vs.length = n)
    (g : Nat) (c : Nat) (u : Value) (hu : u.oneCell' = true) (hx : a.eval x = .slice (some ⟨g, 0, none⟩) 1 c) (hg : w.cell? ⟨g, 0, none⟩ = some u)
    (hn : n < 1073741824) (hB : B ≤ w.heap.size) (H : Nat) (hH : w.heap.size = H)
    (h : ∀ g' cap w', OwV 39 w' B (.slice (some ⟨g', 0, none⟩) (n + 1) cap) (vs ++ [u]) → w.grownBy w' v.ownBlock → (v.ownBlock = some g' ∨ g' = H) → g' < w'.heap.size →
      wpList Tryz.prog ops Q rest (a.put o.dst (.slice (some ⟨g', 0, none⟩) (n + 1) cap)) w') : wpList Tryz.prog ops Q (o :: rest) a w := by
  subst hlen
  obtain ⟨i, hi, hz0, hz1, hz2⟩ := info_parts infoV
  refine wpList_append_lies w hgd s x 61 ho B 39 i (.slice none 0 0) 1 24 Tryz.underlying61 hi hz0 hz1 hz2 rfl (by decide) v vs.length vs hs hown ⟨g, 0, none⟩ 1 c [u] hx rfl ?_ ?_ (by decide) (by unfold maxLen; omega) (by omega) hB H hH ?_
  · intro j u' hj
    match j, hj with
    | 0, hj => simp at hj; subst hj; simpa [Addr.add] using hg
  · intro u' hu'; simp at hu'; subst hu'; exact hu
  · intro g' cap w' h1 h2 h3 h4
    exact h g' cap w' (by unfold OwV; simpa using h1) h2 h3 h4
/-! ### what stands while the reference searches -/
theorem Rd.grownAt {k n : Nat} {w w' : World} {A : Addr} {cs : List Value} {row : Option Nat} (h : Rd k w w.heap.size (some A) n cs) (hg : w.grownBy w' row) (hr : row ≠ some A.block) : Rd k w' w'.heap.size (some A) n cs := by
  refine ⟨h.1, fun hn => ?_⟩
  obtain ⟨b, off, e, hb, hc⟩ := h.2 hn
  injection e with e
  subst e
  exact ⟨b, off, rfl, Nat.lt_of_lt_of_le hb hg.size, fun j u hu => (World.cell?_of_block (w := w) (a := ⟨b, off + j, none⟩) (hg.block b hb fun e => hr e.symm)).trans (hc j u hu)⟩
structure CS (w0 : World) (L : List M) (us : List (List Int)) (vs : List Value) (K : List M) (vO vW : Value) (A : Addr) (w : World) : Prop where
  bel : Below w0.heap.size w0 w
  o : OwM 31 w w0.heap.size vO L
  wd : OwV 39 w w0.heap.size vW vs
  len : vs.length = us.length
  ws : ∀ j, j < us.length → OwI 2 w w0.heap.size (gv vs j) (us.getD j [])
  k : RdM w w.heap.size (some A) K
  kl : A.block < w.heap.size
  s1 : ∀ g, vO.ownBlock = some g → vW.ownBlock ≠ some g ∧ g ≠ A.block
  s2 : ∀ g, vW.ownBlock = some g → g ≠ A.block
  s3 : ∀ j, j < us.length → ∀ g, (gv vs j).ownBlock = some g → vO.ownBlock ≠ some g ∧ vW.ownBlock ≠ some g
section
variable {w0 w w' : World} {L : List M} {us : List (List Int)} {vs : List Value} {K : List M} {vO vW : Value} {A : Addr}
theorem CS.below (h : CS w0 L us vs K vO vW A w) (hb : Below w.heap.size w w') : CS w0 L us vs K vO vW A w' where
  bel := h.bel.trans (hb.mono h.bel.size)
  o := h.o.below hb (Nat.le_refl _)
  wd := h.wd.below hb (Nat.le_refl _)
  len := h.len
  ws := fun j hj => (h.ws j hj).below hb (Nat.le_refl _)
  k := Rd.more (Rd.below h.k hb) hb.size
  kl := Nat.lt_of_lt_of_le h.kl hb.size
  s1 := h.s1
  s2 := h.s2
  s3 := h.s3
theorem CS.pushO (h : CS w0 L us vs K vO vW A w) {g' n c : Nat} {L' : List M} (ho : OwM 31 w' w0.heap.size (.slice (some ⟨g', 0, none⟩) n c) L') (hg : w.grownBy w' vO.ownBlock) (hor : vO.ownBlock = some g' ∨ w.heap.size ≤ g') :
    CS w0 L' us vs K (.slice (some ⟨g', 0, none⟩) n c) vW A w' where
  bel := h.o.bel h.bel hg (Nat.le_refl _) h.bel.size
  o := ho
  wd := h.wd.grown hg fun g hv e => (h.s1 g e).1 hv
  len := h.len
  ws := fun j hj => (h.ws j hj).grown hg fun g hv e => (h.s3 j hj g hv).1 e
  k := Rd.grownAt h.k hg fun e => (h.s1 _ e).2 rfl
  kl := Nat.lt_of_lt_of_le h.kl hg.size
  s1 := fun g hv => by
    obtain rfl := own_eq hv
    rcases hor with h1 | h1
    · exact h.s1 _ h1
    · exact ⟨fun e => by have := (h.wd.lt _ e).2; omega, by have := h.kl; omega⟩
  s2 := h.s2
  s3 := fun j hj g hv => ⟨fun e => by
    obtain rfl := own_eq e
    rcases hor with h1 | h1
    · exact (h.s3 j hj _ hv).1 h1
    · have := ((h.ws j hj).lt _ hv).2; omega, (h.s3 j hj g hv).2⟩
theorem CS.pushW (h : CS w0 L us vs K vO vW A w) {g' n c : Nat} {u : Value} {z : List Int} (ho : OwV 39 w' w0.heap.size (.slice (some ⟨g', 0, none⟩) n c) (vs ++ [u])) (hg : w.grownBy w' vW.ownBlock) (hor : vW.ownBlock = some g' ∨ w.heap.size ≤ g')
    (hu : OwI 2 w w0.heap.size u z) (hu1 : ∀ g, u.ownBlock = some g → vO.ownBlock ≠ some g ∧ vW.ownBlock ≠ some g) :
    CS w0 L (us ++ [z]) (vs ++ [u]) K vO (.slice (some ⟨g', 0, none⟩) n c) A w' where
  bel := h.wd.bel h.bel hg (Nat.le_refl _) h.bel.size
  o := h.o.grown hg fun g hv e => (h.s1 g hv).1 e
  wd := ho
  len := by simp [h.len]
  ws := fun j hj => by
    by_cases e : j = us.length
    · subst e
      rw [gv_last h.len]
      simp only [List.getD_eq_getElem?_getD, List.getElem?_append_right (Nat.le_refl _), Nat.sub_self, List.getElem?_cons_zero, Option.getD_some]
      exact hu.grown hg fun g hv e => (hu1 g hv).2 e
    · have hj' : j < us.length := by simp at hj; omega
      rw [gv_app (by rw [h.len]; exact hj')]
      simp only [List.getD_eq_getElem?_getD, List.getElem?_append_left hj']
      rw [← List.getD_eq_getElem?_getD]
      exact (h.ws j hj').grown hg fun g hv e => (h.s3 j hj' g hv).2 e
  k := Rd.grownAt h.k hg fun e => h.s2 _ e rfl
  kl := Nat.lt_of_lt_of_le h.kl hg.size
  s1 := fun g hv => ⟨fun e => by
    obtain rfl := own_eq e
    rcases hor with h1 | h1
    · exact (h.s1 _ hv).1 h1
    · have := (h.o.lt _ hv).2; omega, (h.s1 g hv).2⟩
  s2 := fun g hv => by
    obtain rfl := own_eq hv
    rcases hor with h1 | h1
    · exact h.s2 _ h1
    · have := h.kl; omega
  s3 := fun j hj g hv => by
    by_cases e : j = us.length
    · subst e
      rw [gv_last h.len] at hv
      refine ⟨(hu1 g hv).1, fun e => ?_⟩
      obtain rfl := own_eq e
      rcases hor with h1 | h1
      · exact (hu1 _ hv).2 h1
      · have := (hu.lt _ hv).2; omega
    · have hj' : j < us.length := by simp at hj; omega
      rw [gv_app (by rw [h.len]; exact hj')] at hv
      refine ⟨(h.s3 j hj' g hv).1, fun e => ?_⟩
      obtain rfl := own_eq e
      rcases hor with h1 | h1
      · exact (h.s3 j hj' _ hv).2 h1
      · have := ((h.ws j hj').lt _ hv).2; omega
theorem CS.putK (h : CS w0 L us vs K vO vW A w) (hb : Below w.heap.size w w') {A' : Addr} {K' : List M} (hA : A' = A ∨ w.heap.size ≤ A'.block) (hk : RdM w' w'.heap.size (some A') K') (hp : 0 < K'.length) : CS w0 L us vs K' vO vW A' w' :=
  have h' := h.below hb
  { bel := h'.bel, o := h'.o, wd := h'.wd, len := h'.len, ws := h'.ws, k := hk
    kl := by
      obtain ⟨b, off, e, hlt, _⟩ := hk.2 hp
      injection e with e
      subst e
      exact hlt
    s1 := fun g hv => ⟨(h.s1 g hv).1, by
      rcases hA with rfl | hA
      · exact (h.s1 g hv).2
      · have := (h.o.lt g hv).2; omega⟩
    s2 := fun g hv => by
      rcases hA with rfl | hA
      · exact h.s2 g hv
      · have := (h.wd.lt g hv).2; omega
    s3 := h.s3 }
end
end Go.Proofs.YtchjegojcpbfpaaGreat
