/- Words for the block of a monoid and for rows of slices; the number of a map, the place of an element; the maps are valid where the theorems say so. Rows of slices, copies of rows, and the state of the search for the elements of a monoid; no conditions beyond those that each theorem states. The state of the search for the elements of a monoid; no conditions beyond those that each theorem states. The contracts of place and product of a monoid; the monoid stands as the theorems say. The contracts of all, any and only of a monoid, for a predicate that its closure computes; the monoid stands as the theorems say. -/
import Derived.Test.YtchjegojcpbfpaaGreatQE03
import Derived.Laws.Tables
set_option linter.unusedSimpArgs false
set_option linter.unusedVariables false
namespace Go.Proofs.YtchjegojcpbfpaaGreat
open Go.RowKit
set_option maxRecDepth 100000
/-! ### the zero of the struct of a monoid -/
noncomputable def zc : Array Value := match Tryz.t64.zero with | some (.agg a) => a | _ => #[]
def isZ : Value → Bool | .int .i64 0 => true | _ => false
theorem isZ_eq {v : Value} (h : isZ v = true) : v = I 0 := by
  unfold isZ at h
  split at h
  · rfl
  · cases h
theorem zc_all : (zc.toList.drop 2).all isZ = true := by kernel_rfl
theorem zc_len : (zc.toList.length == 3127) = true := by kernel_rfl
theorem zc_two : zc.toList.take 2 = [.slice none 0 0, .slice none 0 0] := by kernel_rfl
theorem zc_built : Tryz.prog.built 64 [] = some zc := by kernel_rfl
theorem zc_size : zc.size = 3127 := by have := zc_len; simpa using this
theorem zc_0 : zc[0]? = some (.slice none 0 0) := by
  have h := congrArg (fun l : List Value => l[0]?) zc_two
  simp only [List.getElem?_take] at h
  simpa using h
theorem zc_1 : zc[1]? = some (.slice none 0 0) := by
  have h := congrArg (fun l : List Value => l[1]?) zc_two
  simp only [List.getElem?_take] at h
  simpa using h
theorem zc_p {j : Nat} (hj : j < 3125) : zc[2 + j]? = some (I 0) := by
  have hl := zc_size
  have h := List.all_eq_true.1 zc_all (zc[2 + j]'(by omega)) (by
    rw [List.mem_iff_getElem]
    exact ⟨j, by simp; omega, by simp⟩)
  rw [Array.getElem?_eq_getElem (by omega), isZ_eq h]
def Mono (w : World) (g : Nat) (ev wv : Value) (pl : Nat → Int) : Prop :=
  ∃ cs, Blk w g 64 cs ∧ cs.size = 3127 ∧ cs[0]? = some ev ∧ cs[1]? = some wv ∧ ∀ j, j < 3125 → cs[2 + j]? = some (I (pl j))
section
variable {w w' : World} {g : Nat} {ev wv : Value} {pl : Nat → Int}
theorem Mono.new (w : World) : Mono (w.alloc (.cells zc 64)) w.heap.size (.slice none 0 0) (.slice none 0 0) fun _ => 0 :=
  ⟨zc, Blk.new _ _ _, zc_size, zc_0, zc_1, fun _ h => zc_p h⟩
theorem Mono.lt (h : Mono w g ev wv pl) : g < w.heap.size := by obtain ⟨cs, hb, _⟩ := h; exact hb.lt
theorem Mono.fr (h : Mono w g ev wv pl) (o : Nat) : w.frozen? ⟨g, o, none⟩ = false := by obtain ⟨cs, hb, _⟩ := h; exact hb.frozen o
theorem Mono.c0 (h : Mono w g ev wv pl) : w.cell? ⟨g, 0, none⟩ = some ev := by obtain ⟨cs, hb, _, h0, _⟩ := h; exact (hb.cell 0).trans h0
theorem Mono.c1 (h : Mono w g ev wv pl) : w.cell? ⟨g, 1, none⟩ = some wv := by obtain ⟨cs, hb, _, _, h1, _⟩ := h; exact (hb.cell 1).trans h1
theorem Mono.cp (h : Mono w g ev wv pl) {j : Nat} (hj : j < 3125) : w.cell? ⟨g, 2 + j, none⟩ = some (I (pl j)) := by obtain ⟨cs, hb, _, _, _, hp⟩ := h; exact (hb.cell _).trans (hp j hj)
theorem Mono.keep (h : Mono w g ev wv pl) (hk : w'.heap[g]? = w.heap[g]?) : Mono w' g ev wv pl := by
  obtain ⟨cs, hb, r⟩ := h
  exact ⟨cs, hk.trans hb, r⟩
theorem Mono.below {B : Nat} (h : Mono w g ev wv pl) (hb : Below B w w') (hg : g < B) : Mono w' g ev wv pl := h.keep (hb.block g hg)
theorem Mono.alloc (h : Mono w g ev wv pl) (o : Obj) : Mono (w.alloc o) g ev wv pl := h.keep (Below.heap_alloc w o g h.lt)
theorem Mono.drew (h : Mono w g ev wv pl) : Mono w.drew g ev wv pl := h
theorem Mono.drewN (h : Mono w g ev wv pl) (n : Nat) : Mono (w.drewN n) g ev wv pl := h
theorem Mono.far (h : Mono w g ev wv pl) {p : Addr} (hp : g ≠ p.block) (u : Value) : Mono (w.setCell p u) g ev wv pl := h.keep (Below.heap_setCell w p u g hp)
theorem Mono.grown {row : Option Nat} (h : Mono w g ev wv pl) (hg : w.grownBy w' row) (hr : some g ≠ row) : Mono w' g ev wv pl := h.keep (hg.block g h.lt hr)
theorem Mono.set0 (h : Mono w g ev wv pl) (v : Value) : Mono (w.setCell ⟨g, 0, none⟩ v) g v wv pl := by
  obtain ⟨cs, hb, hs, h0, h1, hp⟩ := h
  refine ⟨_, hb.set_ 0 v, by simpa using hs, by simp [hs], by rw [Array.getElem?_setIfInBounds_ne (by decide)]; exact h1, fun j hj => ?_⟩
  rw [Array.getElem?_setIfInBounds_ne (by omega)]; exact hp j hj
theorem Mono.set1 (h : Mono w g ev wv pl) (v : Value) : Mono (w.setCell ⟨g, 1, none⟩ v) g ev v pl := by
  obtain ⟨cs, hb, hs, h0, h1, hp⟩ := h
  refine ⟨_, hb.set_ 1 v, by simpa using hs, by rw [Array.getElem?_setIfInBounds_ne (by decide)]; exact h0, by simp [hs], fun j hj => ?_⟩
  rw [Array.getElem?_setIfInBounds_ne (by omega)]; exact hp j hj
theorem Mono.setp (h : Mono w g ev wv pl) {k : Nat} (hk : k < 3125) (x : Int) : Mono (w.setCell ⟨g, 2 + k, none⟩ (I x)) g ev wv (fun j => if j = k then x else pl j) := by
  obtain ⟨cs, hb, hs, h0, h1, hp⟩ := h
  refine ⟨_, hb.set_ (2 + k) (I x), by simpa using hs, by rw [Array.getElem?_setIfInBounds_ne (by omega)]; exact h0, by rw [Array.getElem?_setIfInBounds_ne (by omega)]; exact h1, fun j hj => ?_⟩
  by_cases e : j = k
  · subst e
    have hlt : 2 + j < cs.size := by omega
    simp [hlt]
  · rw [Array.getElem?_setIfInBounds_ne (by omega)]; simp only [if_neg e]; exact hp j hj
end
theorem wpList_buildMono {ops : Array Oper} {rest : List Oper} {o : Oper} {a : Act} {w : World} {Q : Exit → Act → World → Prop} (hg : o.guard = none) (ho : o.op = .build 64 #[])
    (h : wpList Tryz.prog ops Q rest (a.put o.dst (.agg zc)) w) : wpList Tryz.prog ops Q (o :: rest) a w := by
  refine wpList_build hg 64 #[] ho ?_ ?_
  · simp [zc_built]
  · simpa [zc_built] using h
/-! ### the number of a map -/
def numTo (f : M) : Nat → Int
  | 0 => 0
  | k + 1 => numTo f k * 5 + f.at k
theorem numTo_num (f : M) : numTo f 5 = num f := by
  show ((((((0 : Int) * 5 + f.t0) * 5 + f.t1) * 5 + f.t2) * 5 + f.t3) * 5 + f.t4) = _
  unfold num
  omega
theorem numTo_bd {f : M} (hf : Valid f) : ∀ k, k ≤ 5 → 0 ≤ numTo f k ∧ numTo f k < 5 ^ k
  | 0, _ => by simp [numTo]
  | k + 1, h => by
    have := numTo_bd hf k (by omega)
    have := hf.nn (k := k) (by omega)
    rw [numTo, Int.pow_succ]
    omega
theorem numTo_le {f : M} (hf : Valid f) {k : Nat} (h : k ≤ 5) : 0 ≤ numTo f k ∧ numTo f k < 3125 := by
  have h1 := numTo_bd hf k h
  have : k = 0 ∨ k = 1 ∨ k = 2 ∨ k = 3 ∨ k = 4 ∨ k = 5 := by omega
  rcases this with rfl | rfl | rfl | rfl | rfl | rfl <;> omega
theorem number_any (f : M) (w : World) (hf : Valid f) :
    Calls Tryz.prog 105 #[.agg (mc f)] w fun e w' => e = .returned (I (num f)) ∧ Below w.heap.size w w' := by
  go_enter Tryz.func105, Tryz.ntmps105
  go_wp2
  go_loopw [3, 8] (fun s i wr => ∃ k : Nat, k ≤ 5 ∧ i = .int .i64 k ∧ s = .int .i64 (numTo f k) ∧ Below w.heap.size w wr) (fun _ i _ => 5 - (intOf i).toNat)
  case atStart => exact ⟨0, by omega, rfl, rfl, by (repeat (first | with_reducible assumption | with_reducible exact Below.refl _ _ | with_reducible refine Below.setCell ?_ (by first | omega | (simp <;> omega)) _ | with_reducible refine Below.alloc ?_ (by first | omega | (simp <;> omega)) _ | with_reducible refine Below.drew ?_ | with_reducible refine Below.drewN ?_ _))⟩
  case round =>
    obtain ⟨k, hk, rfl, rfl, hbel⟩ := hrel
    by_cases hlt : k < 5
    · have c1 := idx_any f k hlt
      have b0 := numTo_le hf (k := k) (by omega)
      have b1 := hf.nn hlt
      have b00 := b0.1
      have b01 := b0.2
      have b10 := b1.1
      have b11 := b1.2
      have Hn : Hid (numTo f (k + 1) = numTo f k * 5 + f.at k) := rfl
      have w1 : IntKind.i64.wrap (numTo f k * 5) = numTo f k * 5 := IntWalk.i64_in _ ⟨by omega, by omega⟩
      have w2 : IntKind.i64.wrap (numTo f k * 5 + f.at k) = numTo f k * 5 + f.at k := IntWalk.i64_in _ ⟨by omega, by omega⟩
      clear b0 b1
      go_wp2
      go_roundw
      case rel => exact ⟨k + 1, by omega, by go_num, by rw [Hn.out], hbel⟩
      case measure => simp [intOf]; omega
    · obtain rfl : k = 5 := by omega
      have Hn := Lib.hid (numTo_num f)
      go_wp2
      go_ret
      exact ⟨ret_int Hn.out, hbel⟩
set_option maxRecDepth 100000
/-! ### rows of slices -/
def gv (vs : List Value) (k : Nat) : Value := vs.getD k undef
theorem gv_eq {vs : List Value} {k : Nat} (hk : k < vs.length) : gv vs k = vs[k] := by simp [gv, List.getD, hk]
theorem gv_app {vs ws : List Value} {k : Nat} (hk : k < vs.length) : gv (vs ++ ws) k = gv vs k := by rw [gv_eq hk, gv_eq (by simp; omega), List.getElem_append_left hk]
theorem gv_last {vs : List Value} {v : Value} {k : Nat} (h : vs.length = k) : gv (vs ++ [v]) k = v := by
  subst h
  rw [gv_eq (by simp), List.getElem_append_right (by simp)]
  simp
def RdV (w : World) (B : Nat) (A : Option Addr) (vs : List Value) : Prop := Rd 1 w B A vs.length vs
theorem RdV.at_ {w : World} {B : Nat} {A : Option Addr} {vs : List Value} (h : RdV w B A vs) {k : Nat} (hk : k < vs.length) :
    ∃ b off, A = some ⟨b, off, none⟩ ∧ b < B ∧ w.cell? ⟨b, off + k, none⟩ = some (gv vs k) := by
  obtain ⟨b, off, e, hb, hc⟩ := h.2 (by omega)
  exact ⟨b, off, e, hb, hc k _ (by rw [gv_eq hk]; simp [hk])⟩
def OwV (e : TypeId) (w : World) (B : Nat) (v : Value) (vs : List Value) : Prop := w.ownsRow B e 1 v vs.length vs
section
variable {e : TypeId} {w w' : World} {B B' : Nat} {v : Value} {vs : List Value}
theorem OwV.form (h : OwV e w B v vs) : ∃ A c, v = .slice A vs.length c ∧ RdV w w.heap.size A vs := by
  rcases h.2 with ⟨rfl, h0⟩ | ⟨g, cap, cur, rfl, _⟩
  · have hz : vs = [] := List.eq_nil_of_length_eq_zero h0
    subst hz
    exact ⟨none, 0, rfl, Rd.nil_⟩
  · exact ⟨_, _, rfl, Rd.of_own h⟩
theorem OwV.lt (h : OwV e w B v vs) : ∀ g, v.ownBlock = some g → B ≤ g ∧ g < w.heap.size := World.ownsRow.lt h
theorem OwV.mono (h : OwV e w B v vs) (hB : B' ≤ B) : OwV e w B' v vs := by
  refine ⟨h.1, ?_⟩
  rcases h.2 with hn | ⟨g, cap, cur, hv, hg, rest⟩
  · exact .inl hn
  · exact .inr ⟨g, cap, cur, hv, by omega, rest⟩
theorem OwV.keep (h : OwV e w B v vs) (hk : ∀ g, v.ownBlock = some g → w'.heap[g]? = w.heap[g]?) : OwV e w' B v vs := by
  refine ⟨h.1, ?_⟩
  rcases h.2 with hn | ⟨g, cap, cur, rfl, hg, hh, rest⟩
  · exact .inl hn
  · exact .inr ⟨g, cap, cur, rfl, hg, by rw [hk g rfl]; exact hh, rest⟩
theorem OwV.below {m : Nat} (h : OwV e w B v vs) (hb : Below m w w') (hm : w.heap.size ≤ m) : OwV e w' B v vs :=
  h.keep fun g hg => hb.block g (by have := h.lt g hg; omega)
theorem OwV.alloc (h : OwV e w B v vs) (o : Obj) : OwV e (w.alloc o) B v vs := h.keep fun g hg => Below.heap_alloc w o g (h.lt g hg).2
theorem OwV.grown {row : Option Nat} (h : OwV e w B v vs) (hg : w.grownBy w' row) (hr : ∀ g, v.ownBlock = some g → row ≠ some g) : OwV e w' B v vs :=
  h.keep fun g hv => hg.block g (h.lt g hv).2 (fun e => hr g hv e.symm)
theorem OwV.bel (h : OwV e w B v vs) {n : Nat} {w0 : World} (hb : Below n w0 w) (hg : w.grownBy w' v.ownBlock) (hB : n ≤ B) (hs : n ≤ w.heap.size) : Below n w0 w' :=
  hb.grown hg hs fun k hk => by have := h.lt k hk; omega
theorem OwV.nil_ : OwV e w B (.slice none 0 0) [] := World.ownsRow_nil w B e 1
theorem OwV.one {u : Value} (hb : B ≤ w.heap.size) : OwV e (w.alloc (.cells #[u] e)) B (.slice (some ⟨w.heap.size, 0, none⟩) 1 1) [u] :=
  ⟨by simp, .inr ⟨w.heap.size, 1, #[u], rfl, hb, heap_alloc_new w _, Nat.le_refl _, by simp [maxLen], rfl, by simp⟩⟩
theorem OwM.grown {ms : List M} {row : Option Nat} (h : OwM e w B v ms) (hg : w.grownBy w' row) (hr : ∀ g, v.ownBlock = some g → row ≠ some g) : OwM e w' B v ms :=
  h.keep fun g hv => hg.block g (h.lt g hv).2 (fun e => hr g hv e.symm)
theorem OwI.grown {zs : List Int} {row : Option Nat} (h : OwI e w B v zs) (hg : w.grownBy w' row) (hr : ∀ g, v.ownBlock = some g → row ≠ some g) : OwI e w' B v zs :=
  h.keep fun g hv => hg.block g (h.lt g hv).2 (fun e => hr g hv e.symm)
end
theorem infoV : (Tryz.prog.info? 39).map (fun i => (i.zero, i.size, i.bytes)) = some (some (.slice none 0 0), 1, 24) := by kernel_rfl
theorem wp_pushV {w : World} {o : Oper} {a : Act} {K : Act → World → Prop} {Q : Exit → Act → World → Prop} (s x : Operand)
    (ho : o.op = .call { callee := .builtin .append, args := #[s, x], argTypes := #[61, 61] }) (B : Nat) (v : Value) (vs : List Value) (hs : a.eval s = v) (hown : OwV 39 w B v vs)
    (g : Nat) (c : Nat) (u : Value) (hu : u.oneCell' = true) (hx : a.eval x = .slice (some ⟨g, 0, none⟩) 1 c) (hg : w.cell? ⟨g, 0, none⟩ = some u)
    (hn : vs.length < 1073741824) (hB : B ≤ w.heap.size)
    (h : ∀ g' cap w', OwV 39 w' B (.slice (some ⟨g', 0, none⟩) (vs.length + 1) cap) (vs ++ [u]) → w.grownBy w' v.ownBlock → (v.ownBlock = some g' ∨ g' = w.heap.size) → g' < w'.heap.size →
      K (a.put o.dst (.slice (some ⟨g', 0, none⟩) (vs.length + 1) cap)) w') : o.wp Tryz.prog a w K Q := by
  obtain ⟨i, hi, hz0, hz1, hz2⟩ := info_parts infoV
  refine wp_append_lies w s x 61 ho B 39 i (.slice none 0 0) 1 24 Tryz.underlying61 hi hz0 hz1 hz2 rfl (by decide) v vs.length vs hs hown ⟨g, 0, none⟩ 1 c [u] hx rfl ?_ ?_ (by decide) (by unfold maxLen; omega) (by omega) hB w.heap.size rfl ?_
  · intro j u' hj
    match j, hj with
    | 0, hj => simp at hj; subst hj; simpa [Addr.add] using hg
  · intro u' hu'; simp at hu'; subst hu'; exact hu
  · intro g' cap w' h1 h2 h3 h4
    exact h g' cap w' (by unfold OwV; simpa using h1) h2 h3 h4
theorem wp_pushM {w : World} {o : Oper} {a : Act} {K : Act → World → Prop} {Q : Exit → Act → World → Prop} (s x : Operand)
    (ho : o.op = .call { callee := .builtin .append, args := #[s, x], argTypes := #[24, 24] }) (B : Nat) (v : Value) (ms : List M) (hs : a.eval s = v) (hown : OwM 31 w B v ms)
    (g : Nat) (c : Nat) (m : M) (hx : a.eval x = .slice (some ⟨g, 0, none⟩) 1 c) (hg : Six w g m)
    (hn : ms.length < 1073741824) (hB : B ≤ w.heap.size)
    (h : ∀ g' cap w', OwM 31 w' B (.slice (some ⟨g', 0, none⟩) (ms.length + 1) cap) (ms ++ [m]) → w.grownBy w' v.ownBlock → (v.ownBlock = some g' ∨ g' = w.heap.size) → g' < w'.heap.size →
      K (a.put o.dst (.slice (some ⟨g', 0, none⟩) (ms.length + 1) cap)) w') : o.wp Tryz.prog a w K Q := by
  obtain ⟨i, hi, hz0, hz1, hz2⟩ := info_parts infoM
  refine wp_append_lies w s x 24 ho B 31 i (.agg (mc M0)) 6 48 Tryz.underlying24 hi hz0 hz1 hz2 rfl (by decide) v ms.length (mcs ms) hs hown ⟨g, 0, none⟩ 1 c (mc m).toList hx rfl ?_ ?_ (by decide) (by unfold maxLen; omega) (by omega) hB w.heap.size rfl ?_
  · intro j u hj
    obtain ⟨c0, c1, c2, c3, c4, c5⟩ := hg
    match j, hj with
    | 0, hj => simp at hj; subst hj; exact c0
    | 1, hj => simp at hj; subst hj; exact c1
    | 2, hj => simp at hj; subst hj; exact c2
    | 3, hj => simp at hj; subst hj; exact c3
    | 4, hj => simp at hj; subst hj; exact c4
    | 5, hj => simp at hj; subst hj; exact c5
    | n + 6, hj => simp at hj
  · intro u hu; simp at hu; rcases hu with rfl | rfl | rfl | rfl | rfl | rfl <;> rfl
  · intro g' cap w' h1 h2 h3 h4
    exact h g' cap w' (by unfold OwM; rw [mcs_app]; simpa [mcs] using h1) h2 h3 h4
theorem wp_pushI {w : World} {o : Oper} {a : Act} {K : Act → World → Prop} {Q : Exit → Act → World → Prop} (s x : Operand)
    (ho : o.op = .call { callee := .builtin .append, args := #[s, x], argTypes := #[39, 39] }) (B : Nat) (v : Value) (zs : List Int) (hs : a.eval s = v) (hown : OwI 2 w B v zs)
    (g : Nat) (c : Nat) (z : Int) (hx : a.eval x = .slice (some ⟨g, 0, none⟩) 1 c) (hg : w.cell? ⟨g, 0, none⟩ = some (I z))
    (hn : zs.length < 1073741824) (hB : B ≤ w.heap.size)
    (h : ∀ g' cap w', OwI 2 w' B (.slice (some ⟨g', 0, none⟩) (zs.length + 1) cap) (zs ++ [z]) → w.grownBy w' v.ownBlock → (v.ownBlock = some g' ∨ g' = w.heap.size) → g' < w'.heap.size →
      K (a.put o.dst (.slice (some ⟨g', 0, none⟩) (zs.length + 1) cap)) w') : o.wp Tryz.prog a w K Q := by
  obtain ⟨i, hi, hz0, hz1, hz2⟩ := info_parts infoI
  refine wp_append_lies w s x 39 ho B 2 i (.int .i64 0) 1 8 Tryz.underlying39 hi hz0 hz1 hz2 rfl (by decide) v zs.length (cI zs) hs hown ⟨g, 0, none⟩ 1 c [I z] hx rfl ?_ ?_ (by decide) (by unfold maxLen; omega) (by omega) hB w.heap.size rfl ?_
  · intro j u hj
    match j, hj with
    | 0, hj => simp at hj; subst hj; simpa [Addr.add] using hg
  · intro u hu; simp at hu; subst hu; rfl
  · intro g' cap w' h1 h2 h3 h4
    exact h g' cap w' (by unfold OwI; rw [cI_snoc]; simpa using h1) h2 h3 h4
/-! ### copies -/
theorem cloneNil_any (w : World) : Calls Tryz.prog 106 #[.slice none 0 0] w fun e w' => e = .returned (.slice none 0 0) ∧ w = w' := by
  have hnil := Lib.run_eql_slice_nil (P := Tryz.prog) w 39 2 none 0 0 0 0 Tryz.underlying39
  go_enter Tryz.func106, Tryz.ntmps106
  go_wp2
  go_ret
  exact ⟨rfl, rfl⟩
theorem cloneI_any (v : Value) (B : Nat) (u : List Int) (w : World) (ho : OwI 2 w B v u) (h : u = [] → v = .slice none 0 0) (hn : u.length < 1073741824) :
    Calls Tryz.prog 106 #[v] w fun e w' => ∃ v', e = .returned v' ∧ OwI 2 w' w.heap.size v' u ∧ Below w.heap.size w w' := by
  by_cases hu : u = []
  · obtain rfl := h hu
    subst hu
    refine (cloneNil_any w).mono ?_
    rintro e w' ⟨rfl, rfl⟩
    exact ⟨_, rfl, OwI.nil_, Below.refl _ _⟩
  · have hpos := List.length_pos_iff.2 hu
    rcases ho.2 with ⟨_, h0⟩ | ⟨g, cap, cur, rfl, _⟩
    · omega
    · obtain ⟨A, c, hv, hr⟩ := ho.form
      injection hv with h1 _ _
      subst h1
      refine (Clone_any g 0 cap u w hr hpos hn).mono ?_
      rintro e w' ⟨g', cap', rfl, h1, h2⟩
      exact ⟨_, rfl, h1, h2⟩
theorem OwM.rd {e : TypeId} {w : World} {B g n c : Nat} {ms : List M} (h : OwM e w B (.slice (some ⟨g, 0, none⟩) n c) ms) : RdM w w.heap.size (some ⟨g, 0, none⟩) ms := by
  obtain ⟨A, c', hv, hr⟩ := h.form
  injection hv with h1 _ _
  subst h1
  exact hr
theorem OwM.some_ {e : TypeId} {w : World} {B : Nat} {v : Value} {ms : List M} (h : OwM e w B v ms) (hpos : 0 < ms.length) : ∃ g c, v = .slice (some ⟨g, 0, none⟩) ms.length c := by
  rcases h.2 with ⟨_, h0⟩ | ⟨g, cap, cur, rfl, _⟩
  · omega
  · exact ⟨g, cap, rfl⟩
theorem OwV.some_ {e : TypeId} {w : World} {B : Nat} {v : Value} {vs : List Value} (h : OwV e w B v vs) (hpos : 0 < vs.length) : ∃ g c, v = .slice (some ⟨g, 0, none⟩) vs.length c := by
  rcases h.2 with ⟨_, h0⟩ | ⟨g, cap, cur, rfl, _⟩
  · omega
  · exact ⟨g, cap, rfl⟩
theorem OwV.rd {e : TypeId} {w : World} {B g n c : Nat} {vs : List Value} (h : OwV e w B (.slice (some ⟨g, 0, none⟩) n c) vs) : RdV w w.heap.size (some ⟨g, 0, none⟩) vs := by
  obtain ⟨A, c', hv, hr⟩ := h.form
  injection hv with h1 _ _
  subst h1
  exact hr
theorem cloneM_any (g n c B : Nat) (ms : List M) (w : World) (ho : OwM 31 w B (.slice (some ⟨g, 0, none⟩) n c) ms) (hn : ms.length = n) (hpos : 0 < n) (hb : n < 1073741824) :
    Calls Tryz.prog 107 #[.slice (some ⟨g, 0, none⟩) n c] w fun e w' => ∃ g' c', e = .returned (.slice (some ⟨g', 0, none⟩) n c') ∧ OwM 31 w' w.heap.size (.slice (some ⟨g', 0, none⟩) n c') ms ∧ Below w.heap.size w w' := by
  have hnil := Lib.run_eql_slice_nil (P := Tryz.prog) w 24 31 (some ⟨g, 0, none⟩) n c 0 0 Tryz.underlying24
  have Hr := Lib.hid ho.rd
  have Hn := Lib.hid hn
  clear ho hn
  go_enter Tryz.func107, Tryz.ntmps107
  go_wp2_with (at_builtin; refine wpList_catM rfl (.tmp 5) (.tmp 6) rfl w.heap.size _ [] ms rfl (OwM.made (Nat.le_refl _)) (some ⟨g, 0, none⟩) n c rfl (fun h => by cases h) (Rd.more (Rd.alloc Hr.out (Nat.le_refl _) _) (by simp)) Hn.out (by simp; omega) (by simp) ?_; intro v' w4 ho' hgr)
  obtain ⟨g', c', rfl⟩ := ho'.some_ (by simp [Hn.out]; omega)
  have ho2 := ho'
  rw [List.nil_append, Hn.out] at ho2
  have hbel : Below w.heap.size w w4 := (OwM.made (Nat.le_refl _) : OwM 31 (w.alloc (.cells #[] 31)) w.heap.size _ []).bel (by (repeat (first | with_reducible assumption | with_reducible exact Below.refl _ _ | with_reducible refine Below.setCell ?_ (by first | omega | (simp <;> omega)) _ | with_reducible refine Below.alloc ?_ (by first | omega | (simp <;> omega)) _ | with_reducible refine Below.drew ?_ | with_reducible refine Below.drewN ?_ _))) hgr (Nat.le_refl _) (by simp)
  go_ret
  refine ⟨g', c', ?_, ho2, hbel⟩
  show Ending.returned (Value.slice (some ⟨g', 0, none⟩) ([] ++ ms).length c') = _
  rw [List.nil_append, Hn.out]
set_option maxRecDepth 100000
structure NSt (n : Int) (w0 : World) (ps : Met) (vs : List Value) (pl : Nat → Int) (vF vW : Value) (w : World) : Prop where
  bel : Below w0.heap.size w0 w
  mono : Mono w w0.heap.size (.slice none 0 0) (.slice none 0 0) pl
  plc : Plc n (ps.map (·.1)) pl
  f : OwM 31 w (w0.heap.size + 1) vF (ps.map (·.1))
  wd : OwV 39 w (w0.heap.size + 1) vW vs
  len : vs.length = ps.length
  ws : ∀ j, j < ps.length → OwI 2 w (w0.heap.size + 1) (gv vs j) (pm ps j).2
  nil_ : ∀ j, j < ps.length → (pm ps j).2 = [] → gv vs j = .slice none 0 0
  fw : ∀ g, vF.ownBlock = some g → vW.ownBlock ≠ some g
  fs : ∀ j, j < ps.length → ∀ g, (gv vs j).ownBlock = some g → vF.ownBlock ≠ some g ∧ vW.ownBlock ≠ some g
section
variable {n : Int} {w0 w w' : World} {ps : Met} {vs : List Value} {pl : Nat → Int} {vF vW : Value}
theorem NSt.below {m : Nat} (h : NSt n w0 ps vs pl vF vW w) (hb : Below m w w') (hm : w.heap.size ≤ m) : NSt n w0 ps vs pl vF vW w' where
  bel := h.bel.trans (hb.mono (by have := h.bel.size; omega))
  mono := h.mono.below hb (by have := h.mono.lt; omega)
  plc := h.plc
  f := h.f.below hb hm
  wd := h.wd.below hb hm
  len := h.len
  ws := fun j hj => (h.ws j hj).below hb hm
  nil_ := h.nil_
  fw := h.fw
  fs := h.fs
theorem NSt.alloc (h : NSt n w0 ps vs pl vF vW w) (o : Obj) : NSt n w0 ps vs pl vF vW (w.alloc o) := h.below ((Below.refl _ _).alloc (Nat.le_refl _) _) (Nat.le_refl _)
theorem NSt.drew (h : NSt n w0 ps vs pl vF vW w) : NSt n w0 ps vs pl vF vW w.drew := h.below (m := w.heap.size) (Below.refl _ _).drew (Nat.le_refl _)
end
/-! ### one step of the search: found, its words, and a new word are written -/
structure G15 where
  q2 : Nat
  v3 : Value
  v9 : Value
  q11 : Nat
  v12 : Value
  q13 : Nat
  v14 : Value
structure S15 (w0 w1 : World) (ps : Met) (vs : List Value) (pl : Nat → Int) (vF vW : Value) (m : M) (u : List Int) (k : Nat) (q : Nat) (b2 b3 b9 b11 b12 b13 b14 : Bool) (c : G15) (w : World) : Prop where
  size : w1.heap.size ≤ w.heap.size
  bel : Below w0.heap.size w0 w
  mono : Mono w w0.heap.size (.slice none 0 0) (.slice none 0 0) pl
  box : Six w q m
  ws : ∀ j, j < ps.length → OwI 2 w (w0.heap.size + 1) (gv vs j) (pm ps j).2
  f0 : b3 = false → OwM 31 w (w0.heap.size + 1) vF (ps.map (·.1))
  e0 : b14 = false → OwV 39 w (w0.heap.size + 1) vW vs
  s2 : b2 = true → b3 = false → Six w c.q2 m ∧ c.q2 < w.heap.size
  s3 : b3 = true → OwM 31 w (w0.heap.size + 1) c.v3 (ps.map (·.1) ++ [m]) ∧ ∀ g, c.v3.ownBlock = some g → vF.ownBlock = some g ∨ w1.heap.size ≤ g
  s9 : b9 = true → b12 = false → OwI 2 w w1.heap.size c.v9 u ∧ ∀ g, c.v9.ownBlock = some g → c.v3.ownBlock ≠ some g
  s11 : b11 = true → b12 = false → w.cell? ⟨c.q11, 0, none⟩ = some (I k) ∧ w1.heap.size ≤ c.q11 ∧ c.q11 < w.heap.size
  s12 : b12 = true → OwI 2 w w1.heap.size c.v12 (u ++ [(k : Int)]) ∧ ∀ g, c.v12.ownBlock = some g → c.v3.ownBlock ≠ some g
  s13 : b13 = true → b14 = false → w.cell? ⟨c.q13, 0, none⟩ = some c.v12 ∧ c.q13 < w.heap.size
  s14 : b14 = true → OwV 39 w (w0.heap.size + 1) c.v14 (vs ++ [c.v12]) ∧ ∀ g, c.v14.ownBlock = some g → c.v3.ownBlock ≠ some g ∧ c.v12.ownBlock ≠ some g ∧ (vW.ownBlock = some g ∨ w1.heap.size ≤ g)
section
variable {n : Int} {w0 w1 w w' : World} {ps : Met} {vs : List Value} {pl : Nat → Int} {vF vW : Value} {m : M} {u : List Int} {k q : Nat} {b2 b3 b9 b11 b12 b13 b14 : Bool} {c : G15}
theorem S15.start (h : NSt n w0 ps vs pl vF vW w1) (h6 : Six w1 q m) (c : G15) : S15 w0 w1 ps vs pl vF vW m u k q false false false false false false false c w1 where
  size := Nat.le_refl _
  bel := h.bel
  mono := h.mono
  box := h6
  ws := h.ws
  f0 := fun _ => h.f
  e0 := fun _ => h.wd
  s2 := fun h => by cases h
  s3 := fun h => by cases h
  s9 := fun h => by cases h
  s11 := fun h => by cases h
  s12 := fun h => by cases h
  s13 := fun h => by cases h
  s14 := fun h => by cases h
theorem S15.below (h : S15 w0 w1 ps vs pl vF vW m u k q b2 b3 b9 b11 b12 b13 b14 c w) (hb : Below w.heap.size w w') : S15 w0 w1 ps vs pl vF vW m u k q b2 b3 b9 b11 b12 b13 b14 c w' where
  size := Nat.le_trans h.size hb.size
  bel := h.bel.trans (hb.mono h.bel.size)
  mono := h.mono.below hb h.mono.lt
  box := h.box.below hb h.box.lt
  ws := fun j hj => (h.ws j hj).below hb (Nat.le_refl _)
  f0 := fun h3 => (h.f0 h3).below hb (Nat.le_refl _)
  e0 := fun h3 => (h.e0 h3).below hb (Nat.le_refl _)
  s2 := fun h2 h3 => ⟨(h.s2 h2 h3).1.below hb (h.s2 h2 h3).2, Nat.lt_of_lt_of_le (h.s2 h2 h3).2 hb.size⟩
  s3 := fun h3 => ⟨(h.s3 h3).1.below hb (Nat.le_refl _), (h.s3 h3).2⟩
  s9 := fun h9 h12 => ⟨(h.s9 h9 h12).1.below hb (Nat.le_refl _), (h.s9 h9 h12).2⟩
  s11 := fun h1 h2 => ⟨(hb.cell (p := ⟨c.q11, 0, none⟩) (h.s11 h1 h2).2.2).trans (h.s11 h1 h2).1, (h.s11 h1 h2).2.1, Nat.lt_of_lt_of_le (h.s11 h1 h2).2.2 hb.size⟩
  s12 := fun h3 => ⟨(h.s12 h3).1.below hb (Nat.le_refl _), (h.s12 h3).2⟩
  s13 := fun h1 h2 => ⟨(hb.cell (p := ⟨c.q13, 0, none⟩) (h.s13 h1 h2).2).trans (h.s13 h1 h2).1, Nat.lt_of_lt_of_le (h.s13 h1 h2).2 hb.size⟩
  s14 := fun h3 => ⟨(h.s14 h3).1.below hb (Nat.le_refl _), (h.s14 h3).2⟩
theorem S15.do2 (h : S15 w0 w1 ps vs pl vF vW m u k q b2 false b9 b11 b12 b13 b14 c w) : S15 w0 w1 ps vs pl vF vW m u k q true false b9 b11 b12 b13 b14 { c with q2 := w.heap.size } (w.alloc (.cells (mc m) 31)) :=
  have h' := h.below ((Below.refl w.heap.size w).alloc (Nat.le_refl _) (.cells (mc m) 31))
  { h' with s2 := fun _ _ => ⟨Blk.six (Blk.new w _ _), by simp⟩, s11 := h'.s11, s13 := h'.s13 }
theorem own_some {g n c : Nat} : (Value.slice (some ⟨g, 0, none⟩) n c).ownBlock = some g := rfl
theorem own_eq {g g' n c : Nat} (h : (Value.slice (some ⟨g, 0, none⟩) n c).ownBlock = some g') : g' = g := by
  rw [own_some] at h; injection h with h; exact h.symm
theorem grown_cell {w w' : World} {row : Option Nat} (hg : w.grownBy w' row) {b o : Nat} (hb : b < w.heap.size) (hr : row ≠ some b) : w'.cell? ⟨b, o, none⟩ = w.cell? ⟨b, o, none⟩ :=
  World.cell?_of_block (w := w) (a := ⟨b, o, none⟩) (hg.block b hb (fun e => hr e.symm))
theorem S15.do3 (h : S15 w0 w1 ps vs pl vF vW m u k q true false false b11 false false false c w) (hN : NSt n w0 ps vs pl vF vW w1) (hq : ∀ g, vF.ownBlock = some g → g < q) {g' cap N : Nat}
    (hown : OwM 31 w' (w0.heap.size + 1) (.slice (some ⟨g', 0, none⟩) N cap) (ps.map (·.1) ++ [m])) (hgr : w.grownBy w' vF.ownBlock) (hor : vF.ownBlock = some g' ∨ g' = w.heap.size) :
    S15 w0 w1 ps vs pl vF vW m u k q true true false b11 false false false { c with v3 := .slice (some ⟨g', 0, none⟩) N cap } w' where
  size := Nat.le_trans h.size hgr.size
  bel := (h.f0 rfl).bel h.bel hgr (by omega) h.bel.size
  mono := h.mono.grown hgr fun e => by have := hN.f.lt _ e.symm; omega
  box := h.box.grown hgr fun e => by have := hq _ e.symm; omega
  ws := fun j hj => (h.ws j hj).grown hgr fun g hg => (hN.fs j hj g hg).1
  f0 := fun h => by cases h
  e0 := fun _ => (h.e0 rfl).grown hgr fun g hg e => hN.fw g e hg
  s2 := fun _ h => by cases h
  s3 := fun _ => ⟨hown, fun g hg => by
    obtain rfl := own_eq hg
    rcases hor with h1 | h1
    · exact .inl h1
    · right; have := h.size; omega⟩
  s9 := fun h => by cases h
  s11 := fun h1 h2 => ⟨(grown_cell hgr (h.s11 h1 h2).2.2 fun e => by have := hN.f.lt _ e; have := (h.s11 h1 h2).2.1; omega).trans (h.s11 h1 h2).1, (h.s11 h1 h2).2.1, Nat.lt_of_lt_of_le (h.s11 h1 h2).2.2 hgr.size⟩
  s12 := fun h => by cases h
  s13 := fun h => by cases h
  s14 := fun h => by cases h
theorem S15.do9 (h : S15 w0 w1 ps vs pl vF vW m u k q b2 true false b11 false false false c w) {v : Value} (hb : Below w.heap.size w w') (ho : OwI 2 w' w.heap.size v u) :
    S15 w0 w1 ps vs pl vF vW m u k q b2 true true b11 false false false { c with v9 := v } w' :=
  have h' := h.below hb
  { h' with s9 := fun _ _ => ⟨ho.mono h.size, fun g hg e => by have := ho.lt g hg; have := (h.s3 rfl).1.lt g e; omega⟩, s2 := h'.s2, s3 := h'.s3, s11 := h'.s11, s12 := h'.s12, s13 := h'.s13, s14 := h'.s14 }
theorem S15.do11 (h : S15 w0 w1 ps vs pl vF vW m u k q b2 b3 b9 b11 b12 b13 b14 c w) : S15 w0 w1 ps vs pl vF vW m u k q b2 b3 b9 true b12 b13 b14 { c with q11 := w.heap.size } (w.alloc (.cells #[I k] 2)) :=
  have h' := h.below ((Below.refl w.heap.size w).alloc (Nat.le_refl _) (.cells #[I k] 2))
  { h' with s11 := fun _ _ => ⟨(Blk.new w 2 #[I k]).cell 0, h.size, by simp⟩, s2 := h'.s2, s3 := h'.s3, s9 := h'.s9, s12 := h'.s12, s13 := h'.s13, s14 := h'.s14 }
theorem S15.do12 (h : S15 w0 w1 ps vs pl vF vW m u k q b2 true true true false false false c w) (hN : NSt n w0 ps vs pl vF vW w1) (hq : q < w1.heap.size) {g' cap N : Nat}
    (hown : OwI 2 w' w1.heap.size (.slice (some ⟨g', 0, none⟩) N cap) (u ++ [(k : Int)])) (hgr : w.grownBy w' c.v9.ownBlock) (hor : c.v9.ownBlock = some g' ∨ g' = w.heap.size) :
    S15 w0 w1 ps vs pl vF vW m u k q b2 true true true true false false { c with v12 := .slice (some ⟨g', 0, none⟩) N cap } w' where
  size := Nat.le_trans h.size hgr.size
  bel := (h.s9 rfl rfl).1.bel h.bel hgr hN.bel.size h.bel.size
  mono := h.mono.grown hgr fun e => by have := (h.s9 rfl rfl).1.lt _ e.symm; have := hN.mono.lt; omega
  box := h.box.grown hgr fun e => by have := (h.s9 rfl rfl).1.lt _ e.symm; omega
  ws := fun j hj => (h.ws j hj).grown hgr fun g hg e => by have := (h.s9 rfl rfl).1.lt _ e; have := (hN.ws j hj).lt g hg; omega
  f0 := fun h => by cases h
  e0 := fun _ => (h.e0 rfl).grown hgr fun g hg e => by have := (h.s9 rfl rfl).1.lt _ e; have := hN.wd.lt g hg; omega
  s2 := fun _ h => by cases h
  s3 := fun _ => ⟨(h.s3 rfl).1.grown hgr fun g hg e => (h.s9 rfl rfl).2 g e hg, (h.s3 rfl).2⟩
  s9 := fun _ h => by cases h
  s11 := fun _ h => by cases h
  s12 := fun _ => ⟨hown, fun g hg e => by
    obtain rfl := own_eq hg
    rcases hor with h1 | h1
    · exact (h.s9 rfl rfl).2 _ h1 e
    · have := (h.s3 rfl).1.lt _ e; omega⟩
  s13 := fun h => by cases h
  s14 := fun h => by cases h
theorem S15.do13 (h : S15 w0 w1 ps vs pl vF vW m u k q b2 b3 b9 b11 true false false c w) : S15 w0 w1 ps vs pl vF vW m u k q b2 b3 b9 b11 true true false { c with q13 := w.heap.size } (w.alloc (.cells #[c.v12] 39)) :=
  have h' := h.below ((Below.refl w.heap.size w).alloc (Nat.le_refl _) (.cells #[c.v12] 39))
  { h' with s13 := fun _ _ => ⟨(Blk.new w 39 #[c.v12]).cell 0, by simp⟩, s2 := h'.s2, s3 := h'.s3, s9 := h'.s9, s11 := h'.s11, s12 := h'.s12, s14 := h'.s14 }
theorem S15.do14 (h : S15 w0 w1 ps vs pl vF vW m u k q b2 true b9 b11 true true false c w) (hN : NSt n w0 ps vs pl vF vW w1) (hq : ∀ g, vW.ownBlock = some g → g < q) {g' cap N : Nat}
    (hown : OwV 39 w' (w0.heap.size + 1) (.slice (some ⟨g', 0, none⟩) N cap) (vs ++ [c.v12])) (hgr : w.grownBy w' vW.ownBlock) (hor : vW.ownBlock = some g' ∨ g' = w.heap.size) :
    S15 w0 w1 ps vs pl vF vW m u k q b2 true b9 b11 true true true { c with v14 := .slice (some ⟨g', 0, none⟩) N cap } w' where
  size := Nat.le_trans h.size hgr.size
  bel := (h.e0 rfl).bel h.bel hgr (by omega) h.bel.size
  mono := h.mono.grown hgr fun e => by have := hN.wd.lt _ e.symm; omega
  box := h.box.grown hgr fun e => by have := hq _ e.symm; omega
  ws := fun j hj => (h.ws j hj).grown hgr fun g hg => (hN.fs j hj g hg).2
  f0 := fun h => by cases h
  e0 := fun h => by cases h
  s2 := fun _ h => by cases h
  s3 := fun _ => ⟨(h.s3 rfl).1.grown hgr fun g hg e => by
    rcases (h.s3 rfl).2 g hg with h1 | h1
    · exact hN.fw g h1 e
    · have := hN.wd.lt _ e; omega, (h.s3 rfl).2⟩
  s9 := fun _ h => by cases h
  s11 := fun _ h => by cases h
  s12 := fun _ => ⟨(h.s12 rfl).1.grown hgr fun g hg e => by have := (h.s12 rfl).1.lt g hg; have := hN.wd.lt _ e; omega, (h.s12 rfl).2⟩
  s13 := fun _ h => by cases h
  s14 := fun _ => ⟨hown, fun g hg => by
    obtain rfl := own_eq hg
    have hsz := h.size
    refine ⟨fun e => ?_, fun e => ?_, ?_⟩
    · rcases hor with h1 | h1
      · rcases (h.s3 rfl).2 _ e with h2 | h2
        · exact hN.fw _ h2 h1
        · have := hN.wd.lt _ h1; omega
      · have := (h.s3 rfl).1.lt _ e; omega
    · rcases hor with h1 | h1
      · have := (h.s12 rfl).1.lt _ e; have := hN.wd.lt _ h1; omega
      · have := (h.s12 rfl).1.lt _ e; omega
    · rcases hor with h1 | h1
      · exact .inl h1
      · right; omega⟩
theorem S15.fin (h : S15 w0 w1 ps vs pl vF vW m u k q b2 true b9 b11 true b13 true c w) (hN : NSt n w0 ps vs pl vF vW w1) (hv : Valid m) (hp : m.p = n) (hin : m ∉ ps.map (·.1)) :
    NSt n w0 (ps ++ [(m, u ++ [(k : Int)])]) (vs ++ [c.v12]) (fun j => if j = (num m).toNat then (ps.length : Int) + 1 else pl j) c.v3 c.v14 (w.setCell ⟨w0.heap.size, 2 + (num m).toNat, none⟩ (I ((ps.length : Int) + 1))) := by
  have hb := num_bd hv
  have far : ∀ g, w0.heap.size + 1 ≤ g → (w.setCell ⟨w0.heap.size, 2 + (num m).toNat, none⟩ (I ((ps.length : Int) + 1))).heap[g]? = w.heap[g]? := fun g hg =>
    Below.heap_setCell w _ _ g (by show g ≠ w0.heap.size; omega)
  have hw1 := hN.mono.lt
  have hvl := hN.len
  refine ⟨h.bel.setCell (p := ⟨w0.heap.size, 2 + (num m).toNat, none⟩) (Nat.le_refl _) _, h.mono.setp (by omega) _, ?_, ?_, ?_, by simp [hvl], ?_, ?_, ?_, ?_⟩
  · have := hN.plc.step hv hp hin
    simpa using this
  · rw [List.map_append]
    exact (h.s3 rfl).1.keep fun g hg => far g ((h.s3 rfl).1.lt g hg).1
  · exact (h.s14 rfl).1.keep fun g hg => far g ((h.s14 rfl).1.lt g hg).1
  · intro j hj
    by_cases e : j = ps.length
    · subst e
      rw [gv_last hvl]
      have e2 : pm (ps ++ [(m, u ++ [(k : Int)])]) ps.length = (m, u ++ [(k : Int)]) := by rw [pm_eq (by simp), List.getElem_append_right (by simp)]; simp
      rw [e2]
      exact ((h.s12 rfl).1.mono (by omega)).keep fun g hg => far g (by have := ((h.s12 rfl).1.lt g hg).1; omega)
    · have hj' : j < ps.length := by simp at hj; omega
      rw [gv_app (by omega), pm_app hj']
      exact (h.ws j hj').keep fun g hg => far g ((h.ws j hj').lt g hg).1
  · intro j hj hnil
    by_cases e : j = ps.length
    · subst e
      have e2 : pm (ps ++ [(m, u ++ [(k : Int)])]) ps.length = (m, u ++ [(k : Int)]) := by rw [pm_eq (by simp), List.getElem_append_right (by simp)]; simp
      rw [e2] at hnil
      simp at hnil
    · have hj' : j < ps.length := by simp at hj; omega
      rw [pm_app hj'] at hnil
      rw [gv_app (by omega)]
      exact hN.nil_ j hj' hnil
  · intro g hg e
    exact ((h.s14 rfl).2 g e).1 hg
  · intro j hj g hg
    by_cases e : j = ps.length
    · subst e
      rw [gv_last hvl] at hg
      refine ⟨(h.s12 rfl).2 g hg, fun e => ((h.s14 rfl).2 g e).2.1 hg⟩
    · have hj' : j < ps.length := by simp at hj; omega
      rw [gv_app (by omega)] at hg
      have hl := (hN.ws j hj').lt g hg
      refine ⟨fun e => ?_, fun e => ?_⟩
      · rcases (h.s3 rfl).2 g e with h1 | h1
        · exact (hN.fs j hj' g hg).1 h1
        · omega
      · rcases ((h.s14 rfl).2 g e).2.2 with h1 | h1
        · exact (hN.fs j hj' g hg).2 h1
        · omega
end
/-! ### the monoid that is made -/
theorem grownBy_below {w w1 w' : World} {row : Option Nat} (h : w.grownBy w1 row) (hb : Below w1.heap.size w1 w') : w.grownBy w' row :=
  ⟨hb.os.trans h.os, hb.tape.trans h.tape, hb.output.trans h.output, Nat.le_trans h.size hb.size, fun k hk hne => (hb.block k (Nat.lt_of_lt_of_le hk h.size)).trans (h.block k hk hne)⟩
theorem grownBy_grown {w w1 w' : World} {row row' : Option Nat} (h : w.grownBy w1 row) (hg : w1.grownBy w' row') (hr : ∀ k, k < w.heap.size → row' = some k → row = some k) : w.grownBy w' row :=
  ⟨hg.os.trans h.os, hg.tape.trans h.tape, hg.output.trans h.output, Nat.le_trans h.size hg.size, fun k hk hne => (hg.block k (Nat.lt_of_lt_of_le hk h.size) (fun e => hne (hr k hk e.symm).symm)).trans (h.block k hk hne)⟩
theorem grownBy_set' {w w1 : World} {g o : Nat} {u : Value} (h : w.grownBy w1 (some g)) : w.grownBy (w1.setCell ⟨g, o, none⟩ u) (some g) :=
  ⟨h.os, h.tape, h.output, by simpa [World.setCell] using h.size, fun j hj hne => (Below.heap_setCell w1 _ u j (fun e => hne (by rw [e]))).trans (h.block j hj hne)⟩
theorem grownBy_bel {w0 w w' : World} {B g : Nat} (hb : Below B w0 w) (hg : w.grownBy w' (some g)) (hB : B ≤ g) (hs : B ≤ w.heap.size) : Below B w0 w' :=
  hb.grown hg hs fun k hk => by injection hk with hk; omega
structure MonAt (n : Int) (B : Nat) (g : Nat) (E : List M) (us : List (List Int)) (w : World) : Prop where
  ge : B ≤ g
  ex : ∃ ev wv pl vs, Mono w g ev wv pl ∧ Plc n E pl ∧ OwM 31 w B ev E ∧ OwV 39 w B wv vs ∧ vs.length = E.length ∧ us.length = E.length ∧ ∀ j, j < E.length → OwI 2 w B (gv vs j) (us.getD j [])
structure G23 where
  q16 : Nat
  v17 : Value
structure S23 (wS : World) (g0 : Nat) (vE wk : Value) (pl : Nat → Int) (L : List Value) (u : Value) (qb : Nat) (f : M) (b16 b17 b20 : Bool) (c : G23) (w : World) : Prop where
  gr : wS.grownBy w (some g0)
  box : b17 = false → Six w qb f
  m0 : b20 = false → Mono w g0 vE wk pl
  m1 : b20 = true → Mono w g0 vE c.v17 pl
  r0 : b17 = false → OwV 39 w wS.heap.size wk L
  r1 : b17 = true → OwV 39 w wS.heap.size c.v17 (L ++ [u])
  s16 : b16 = true → b17 = false → w.cell? ⟨c.q16, 0, none⟩ = some u ∧ c.q16 < w.heap.size
section
variable {wS w w' : World} {g0 : Nat} {vE wk : Value} {pl : Nat → Int} {L : List Value} {u : Value} {qb : Nat} {f : M} {b16 b17 b20 : Bool} {c : G23}
theorem S23.below (h : S23 wS g0 vE wk pl L u qb f b16 b17 b20 c w) (hb : Below w.heap.size w w') : S23 wS g0 vE wk pl L u qb f b16 b17 b20 c w' where
  gr := grownBy_below h.gr hb
  box := fun e => (h.box e).below hb (h.box e).lt
  m0 := fun e => (h.m0 e).below hb (h.m0 e).lt
  m1 := fun e => (h.m1 e).below hb (h.m1 e).lt
  r0 := fun e => (h.r0 e).below hb (Nat.le_refl _)
  r1 := fun e => (h.r1 e).below hb (Nat.le_refl _)
  s16 := fun e1 e2 => ⟨(hb.cell (p := ⟨c.q16, 0, none⟩) (h.s16 e1 e2).2).trans (h.s16 e1 e2).1, Nat.lt_of_lt_of_le (h.s16 e1 e2).2 hb.size⟩
theorem S23.do16 (h : S23 wS g0 vE wk pl L u qb f b16 false false c w) : S23 wS g0 vE wk pl L u qb f true false false { c with q16 := w.heap.size } (w.alloc (.cells #[u] 39)) :=
  have h' := h.below ((Below.refl w.heap.size w).alloc (Nat.le_refl _) (.cells #[u] 39))
  { h' with s16 := fun _ _ => ⟨(Blk.new w 39 #[u]).cell 0, by simp⟩, m1 := fun e => (by cases e), r1 := fun e => (by cases e) }
theorem S23.do17 (h : S23 wS g0 vE wk pl L u qb f true false false c w) (hg : g0 < wS.heap.size) {g' cap N : Nat}
    (hown : OwV 39 w' wS.heap.size (.slice (some ⟨g', 0, none⟩) N cap) (L ++ [u])) (hgr : w.grownBy w' wk.ownBlock) : S23 wS g0 vE wk pl L u qb f true true false { c with v17 := .slice (some ⟨g', 0, none⟩) N cap } w' where
  gr := grownBy_grown h.gr hgr fun k hk e => by have := ((h.r0 rfl).lt k e).1; omega
  box := fun e => by cases e
  m0 := fun _ => (h.m0 rfl).grown hgr fun e => by have := ((h.r0 rfl).lt _ e.symm).1; omega
  m1 := fun e => by cases e
  r0 := fun e => by cases e
  r1 := fun _ => hown
  s16 := fun _ e => by cases e
theorem S23.do20 (h : S23 wS g0 vE wk pl L u qb f b16 true false c w) (hg : g0 < wS.heap.size) : S23 wS g0 vE wk pl L u qb f b16 true true c (w.setCell ⟨g0, 1, none⟩ c.v17) where
  gr := grownBy_set' h.gr
  box := fun e => by cases e
  m0 := fun e => by cases e
  m1 := fun _ => (h.m0 rfl).set1 _
  r0 := fun e => by cases e
  r1 := fun _ => (h.r1 rfl).keep fun g hg' => Below.heap_setCell w _ _ g (by have := ((h.r1 rfl).lt g hg').1; show g ≠ g0; omega)
  s16 := fun _ e => by cases e
end
/-! ### what the end of the search keeps -/
structure Kept (w0 : World) (ps : Met) (vs : List Value) (E : List M) (vE vW : Value) (w : World) : Prop where
  bel : Below w0.heap.size w0 w
  lt : w0.heap.size < w.heap.size
  e : OwM 31 w (w0.heap.size + 1) vE E
  wd : OwV 39 w (w0.heap.size + 1) vW vs
  ws : ∀ j, j < ps.length → OwI 2 w (w0.heap.size + 1) (gv vs j) (pm ps j).2
section
variable {n : Int} {w0 w w' : World} {ps : Met} {vs : List Value} {pl : Nat → Int} {E F : List M} {vE vF vW : Value}
theorem Kept.grown (h : Kept w0 ps vs E vE vW w) (hg : w.grownBy w' (some w0.heap.size)) : Kept w0 ps vs E vE vW w' where
  bel := grownBy_bel h.bel hg (Nat.le_refl _) h.bel.size
  lt := Nat.lt_of_lt_of_le h.lt hg.size
  e := h.e.grown hg fun g hv e => by injection e with e; have := (h.e.lt g hv).1; omega
  wd := h.wd.grown hg fun g hv e => by injection e with e; have := (h.wd.lt g hv).1; omega
  ws := fun j hj => (h.ws j hj).grown hg fun g hv e => by injection e with e; have := ((h.ws j hj).lt g hv).1; omega
theorem Kept.below (h : Kept w0 ps vs E vE vW w) (hb : Below w.heap.size w w') : Kept w0 ps vs E vE vW w' := h.grown (grownBy_below (World.grownBy.refl w _) hb)
theorem NSt.kept {gE N c : Nat} {v : Value} (h : NSt n w0 ps vs pl vF vW w) (hW : ∀ g, vW.ownBlock = some g → g ≠ gE) (hws : ∀ j, j < ps.length → ∀ g, (gv vs j).ownBlock = some g → g ≠ gE) (hgE : w0.heap.size ≤ gE)
    (hg : (w.setCell ⟨w0.heap.size, 0, none⟩ v).grownBy w' (some gE)) (ho : OwM 31 w' (w0.heap.size + 1) (.slice (some ⟨gE, 0, none⟩) N c) E) :
    Kept w0 ps vs E (.slice (some ⟨gE, 0, none⟩) N c) vW w' := by
  have hs : (w.setCell ⟨w0.heap.size, 0, none⟩ v).heap.size = w.heap.size := by simp [World.setCell]
  have far : ∀ g, w0.heap.size + 1 ≤ g → (w.setCell ⟨w0.heap.size, 0, none⟩ v).heap[g]? = w.heap[g]? := fun g hg => Below.heap_setCell w _ _ g (by show g ≠ w0.heap.size; omega)
  refine ⟨grownBy_bel (h.bel.setCell (p := ⟨w0.heap.size, 0, none⟩) (Nat.le_refl _) v) hg hgE (by rw [hs]; exact h.bel.size), Nat.lt_of_lt_of_le (by rw [hs]; exact h.mono.lt) hg.size, ho, ?_, fun j hj => ?_⟩
  · exact (h.wd.keep fun g hv => far g (h.wd.lt g hv).1).grown hg fun g hv e => by injection e with e; exact hW g hv e.symm
  · exact ((h.ws j hj).keep fun g hv => far g ((h.ws j hj).lt g hv).1).grown hg fun g hv e => by injection e with e; exact hws j hj g hv e.symm
end
end Go.Proofs.YtchjegojcpbfpaaGreat

namespace Go.Proofs.YtchjegojcpbfpaaGreat
open Go.RowKit
set_option maxRecDepth 100000
section
variable {n : Int} {B g : Nat} {E : List M} {us : List (List Int)} {w w' : World}
theorem MonAt.below {m : Nat} (h : MonAt n B g E us w) (hb : Below m w w') (hm : w.heap.size ≤ m) : MonAt n B g E us w' := by
  obtain ⟨ge, ev, wv, pl, vs, h1, h2, h3, h4, h5, h6, h7⟩ := h
  exact ⟨ge, ev, wv, pl, vs, h1.below hb (by have := h1.lt; omega), h2, h3.below hb hm, h4.below hb hm, h5, h6, fun j hj => (h7 j hj).below hb hm⟩
theorem MonAt.lt (h : MonAt n B g E us w) : g < w.heap.size := by obtain ⟨_, ev, wv, pl, vs, h1, _⟩ := h; exact h1.lt
theorem plOf_bd (E : List M) (f : M) : 0 ≤ plOf E f ∧ plOf E f ≤ E.length := by
  unfold plOf
  split
  · rename_i h; have := ix_lt h; omega
  · omega
end
theorem place_any {n : Int} {B g : Nat} {E : List M} {us : List (List Int)} (f : M) (w : World) (h : MonAt n B g E us w) (hE : E.length ≤ 300) (hf : Valid f) (hp : f.p = n) :
    Calls Tryz.prog 100 #[.pointer (some ⟨g, 0, none⟩), .agg (mc f)] w fun e w' => e = .returned (I (plOf E f - 1)) ∧ Below w.heap.size w w' := by
  obtain ⟨_, ev, wv, pl, vs, hM, hP, _⟩ := h
  have hpl := hP f hf hp
  have nb0 := (num_bd hf).1
  have nb1 := (num_bd hf).2
  have b0 := plOf_bd E f
  obtain ⟨x, hx⟩ : ∃ x, x = plOf E f := ⟨_, rfl⟩
  rw [← hx] at hpl b0 ⊢
  have x0 := b0.1
  have x1 := b0.2
  have hw1 : IntKind.i64.wrap (x - 1) = x - 1 := IntWalk.i64_in _ ⟨by omega, by omega⟩
  have HM := Lib.hid hM
  have hgl := hM.lt
  have Hpl := Lib.hid hpl
  clear hM hP hpl hx b0
  go_enter Tryz.func100, Tryz.ntmps100
  go_wp2_with fail
  obtain ⟨wb, hwb⟩ : ∃ wb, wb = w.alloc (.cells (mc f) 31) := ⟨_, rfl⟩
  have hszb : wb.heap.size = w.heap.size + 1 := by rw [hwb]; simp
  have hbb : Below w.heap.size w wb := by rw [hwb]; exact (Below.refl _ _).alloc (Nat.le_refl _) _
  have H6 : Hid (Six wb w.heap.size f) := by show Six _ _ _; rw [hwb]; exact Blk.six (Blk.new w _ _)
  have HM3 := Lib.hid (HM.out.below hbb HM.out.lt)
  have hgM := HM3.out.lt
  have H6l := H6.out.lt
  have Hbb := Lib.hid hbb
  rw [← hwb]
  clear hwb hbb HM
  refine wp_region_same [] rfl (by kernel_rfl) (by kernel_rfl) (by kernel_rfl) (fun w' => Below wb.heap.size wb w') _
    [.pointer (some ⟨g, 0, none⟩), .agg (mc f), I (num f), .pointer (some ⟨g, 0, none⟩), .pointer (some ⟨g, 2, none⟩), .pointer (some ⟨g, 2 + (num f).toNat, none⟩), I x, I (x - 1), I (x - 1)]
    (by simp only [putAll, List.setIfInBounds_toArray, List.set_cons_succ, List.set_cons_zero]; rfl) (Below.refl _ _).drew ?hop ?hQ
  case hop =>
    refine FixBL.toL (fun w' w'' hS hb => hS.trans (hb.mono hS.size)) _ _ ?_
    refine ⟨.inr ?_, .inr ?_, .inr ?_, .inr ?_, .inr ?_, .inr ?_, .inr ?_, .inr ?_, .inr ?_, trivial⟩
    · (with_reducible refine FixB.of ?_ ?_; rfl; intro w' hS; have s0 := H6.out.below hS H6l; have s1 := (HM3.out.below hS hgM).cp (j := (num f).toNat) (by omega); rw [Hpl.out] at s1; clear hS; unfold Oper.wp; go_simp; first | done | exact Below.refl _ _)
    · (with_reducible refine FixB.of ?_ ?_; rfl; intro w' hS; have s0 := H6.out.below hS H6l; have s1 := (HM3.out.below hS hgM).cp (j := (num f).toNat) (by omega); rw [Hpl.out] at s1; clear hS; unfold Oper.wp; go_simp; first | done | exact Below.refl _ _)
    · (with_reducible refine FixB.of ?_ ?_; rfl; intro w' hS; have s3 := Lib.hid hS; unfold Oper.wp; clear hS; go_simp; refine (number_any f _ hf).mono ?_; rintro e w1 ⟨rfl, hb⟩; exact ⟨rfl, hb⟩)
    · (with_reducible refine FixB.of ?_ ?_; rfl; intro w' hS; have s0 := H6.out.below hS H6l; have s1 := (HM3.out.below hS hgM).cp (j := (num f).toNat) (by omega); rw [Hpl.out] at s1; clear hS; unfold Oper.wp; go_simp; first | done | exact Below.refl _ _)
    · (with_reducible refine FixB.of ?_ ?_; rfl; intro w' hS; have s0 := H6.out.below hS H6l; have s1 := (HM3.out.below hS hgM).cp (j := (num f).toNat) (by omega); rw [Hpl.out] at s1; clear hS; unfold Oper.wp; go_simp; first | done | exact Below.refl _ _)
    · (with_reducible refine FixB.of ?_ ?_; rfl; intro w' hS; have s0 := H6.out.below hS H6l; have s1 := (HM3.out.below hS hgM).cp (j := (num f).toNat) (by omega); rw [Hpl.out] at s1; clear hS; unfold Oper.wp; go_simp; first | done | exact Below.refl _ _)
    · (with_reducible refine FixB.of ?_ ?_; rfl; intro w' hS; have s0 := H6.out.below hS H6l; have s1 := (HM3.out.below hS hgM).cp (j := (num f).toNat) (by omega); rw [Hpl.out] at s1; clear hS; unfold Oper.wp; go_simp; first | done | exact Below.refl _ _)
    · (with_reducible refine FixB.of ?_ ?_; rfl; intro w' hS; have s0 := H6.out.below hS H6l; have s1 := (HM3.out.below hS hgM).cp (j := (num f).toNat) (by omega); rw [Hpl.out] at s1; clear hS; unfold Oper.wp; go_simp; first | done | exact Below.refl _ _)
    · (with_reducible refine FixB.of ?_ ?_; rfl; intro w' hS; have s0 := H6.out.below hS H6l; have s1 := (HM3.out.below hS hgM).cp (j := (num f).toNat) (by omega); rw [Hpl.out] at s1; clear hS; unfold Oper.wp; go_simp; first | done | exact Below.refl _ _)
  case hQ =>
    intro wc hS _
    have hB : Below w.heap.size w wc := Hbb.out.trans (hS.mono (by omega))
    clear hS
    go_wp2
    go_ret
    exact ⟨rfl, hB⟩
theorem product_any {n : Int} {B g : Nat} {E : List M} {us : List (List Int)} (i k : Nat) (w : World) (h : MonAt n B g E us w) (hE : E.length ≤ 300) (hm : Mnd n E) (hi : i < E.length) (hk : k < E.length) :
    Calls Tryz.prog 97 #[.pointer (some ⟨g, 0, none⟩), I i, I k] w fun e w' => e = .returned (I (ix E (mul (gm E i) (gm E k)))) ∧ Below w.heap.size w w' := by
  have H := Lib.hid h
  obtain ⟨_, ev, wv, pl, vs, hM, hP, hO, _⟩ := h
  obtain ⟨gE, cE, rfl⟩ := hO.some_ (by omega)
  have h6 : ∀ j, j < E.length → SixAt w gE (j * 6) (gm E j) := fun j hj => by
    obtain ⟨b', off', e, _, h6⟩ := RdM.at_ hO.rd (k := j) hj
    injection e with e
    injection e with e1 e2 _
    subst e1 e2
    rw [Nat.zero_add] at h6
    exact h6
  have hgEl := (hO.lt gE rfl).2
  have hgl := hM.lt
  have Hi := Lib.hid (h6 i hi)
  have Hk := Lib.hid (h6 k hk)
  have HM := Lib.hid hM
  have hvi := (hm.ok _ (gm_mem hi)).1
  have hpi := (hm.ok _ (gm_mem hi)).2
  have hvk := (hm.ok _ (gm_mem hk)).1
  have hpk := (hm.ok _ (gm_mem hk)).2
  have hin := hm.mulE _ (gm_mem hi) _ (gm_mem hk)
  have hvm : Valid (mul (gm E i) (gm E k)) := Valid.mul hvi hvk (by rw [hpi, hpk])
  have hpm : (mul (gm E i) (gm E k)).p = n := hpi
  have hpl : plOf E (mul (gm E i) (gm E k)) - 1 = (ix E (mul (gm E i) (gm E k)) : Int) := by rw [plOf_in hin]; omega
  obtain ⟨x, hx⟩ : ∃ x, x = ix E (mul (gm E i) (gm E k)) := ⟨_, rfl⟩
  rw [← hx] at hpl ⊢
  obtain ⟨fi, hfi⟩ : ∃ fi, fi = gm E i := ⟨_, rfl⟩
  obtain ⟨fk, hfk⟩ : ∃ fk, fk = gm E k := ⟨_, rfl⟩
  rw [← hfi, ← hfk] at hvm hpm hpl
  rw [← hfi] at Hi hvi
  rw [← hfk] at Hk
  have Hpl := Lib.hid hpl
  have Hpm := Lib.hid hpm
  have ki : (i : Int) < (E.length : Int) := by omega
  have kk : (k : Int) < (E.length : Int) := by omega
  clear hM hP hO h6 hpi hvk hpk hin hx hfi hfk hpl hpm
  go_enter Tryz.func97, Tryz.ntmps97
  go_wp2_with fail
  refine wp_region_same [] rfl (by kernel_rfl) (by kernel_rfl) (by kernel_rfl) (fun w' => Below w.heap.size w w') _
    [.pointer (some ⟨g, 0, none⟩), .pointer (some ⟨g, 0, none⟩), .pointer (some ⟨g, 0, none⟩), .pointer (some ⟨g, 0, none⟩), .slice (some ⟨gE, 0, none⟩) E.length cE, I i, .pointer (some ⟨gE, i * 6, none⟩), .agg (mc fi), .pointer (some ⟨g, 0, none⟩), .pointer (some ⟨g, 0, none⟩), .pointer (some ⟨g, 0, none⟩), .slice (some ⟨gE, 0, none⟩) E.length cE, I k, .pointer (some ⟨gE, k * 6, none⟩), .agg (mc fk), .agg (mc (mul fi fk)), I x, I x]
    (by simp only [putAll, List.setIfInBounds_toArray, List.set_cons_succ, List.set_cons_zero]; rfl) (Below.refl _ _).drew ?hop ?hQ
  case hop =>
    refine FixBL.toL (fun w' w'' hS hb => hS.trans (hb.mono hS.size)) _ _ ?_
    refine ⟨.inr ?_, .inr ?_, .inr ?_, .inr ?_, .inr ?_, .inr ?_, .inr ?_, .inr ?_, .inr ?_, .inr ?_, .inr ?_, .inr ?_, .inr ?_, .inr ?_, .inr ?_, .inr ?_, .inr ?_, .inr ?_, trivial⟩
    · (with_reducible refine FixB.of ?_ ?_; rfl; intro w' hS; have s0 := Hi.out.below hS hgEl; have s1 := Hk.out.below hS hgEl; have s2 := (HM.out.below hS hgl).c0; clear hS; unfold Oper.wp; go_simp; first | done | exact Below.refl _ _)
    · (with_reducible refine FixB.of ?_ ?_; rfl; intro w' hS; have s0 := Hi.out.below hS hgEl; have s1 := Hk.out.below hS hgEl; have s2 := (HM.out.below hS hgl).c0; clear hS; unfold Oper.wp; go_simp; first | done | exact Below.refl _ _)
    · (with_reducible refine FixB.of ?_ ?_; rfl; intro w' hS; have s0 := Hi.out.below hS hgEl; have s1 := Hk.out.below hS hgEl; have s2 := (HM.out.below hS hgl).c0; clear hS; unfold Oper.wp; go_simp; first | done | exact Below.refl _ _)
    · (with_reducible refine FixB.of ?_ ?_; rfl; intro w' hS; have s0 := Hi.out.below hS hgEl; have s1 := Hk.out.below hS hgEl; have s2 := (HM.out.below hS hgl).c0; clear hS; unfold Oper.wp; go_simp; first | done | exact Below.refl _ _)
    · (with_reducible refine FixB.of ?_ ?_; rfl; intro w' hS; have s0 := Hi.out.below hS hgEl; have s1 := Hk.out.below hS hgEl; have s2 := (HM.out.below hS hgl).c0; clear hS; unfold Oper.wp; go_simp; first | done | exact Below.refl _ _)
    · (with_reducible refine FixB.of ?_ ?_; rfl; intro w' hS; have s0 := Hi.out.below hS hgEl; have s1 := Hk.out.below hS hgEl; have s2 := (HM.out.below hS hgl).c0; clear hS; unfold Oper.wp; go_simp; first | done | exact Below.refl _ _)
    · (with_reducible refine FixB.of ?_ ?_; rfl; intro w' hS; have s0 := Hi.out.below hS hgEl; have s1 := Hk.out.below hS hgEl; have s2 := (HM.out.below hS hgl).c0; clear hS; unfold Oper.wp; go_simp; first | done | exact Below.refl _ _)
    · (with_reducible refine FixB.of ?_ ?_; rfl; intro w' hS; have s0 := Hi.out.below hS hgEl; have s1 := Hk.out.below hS hgEl; have s2 := (HM.out.below hS hgl).c0; clear hS; unfold Oper.wp; go_simp; first | done | exact Below.refl _ _)
    · (with_reducible refine FixB.of ?_ ?_; rfl; intro w' hS; have s0 := Hi.out.below hS hgEl; have s1 := Hk.out.below hS hgEl; have s2 := (HM.out.below hS hgl).c0; clear hS; unfold Oper.wp; go_simp; first | done | exact Below.refl _ _)
    · (with_reducible refine FixB.of ?_ ?_; rfl; intro w' hS; have s0 := Hi.out.below hS hgEl; have s1 := Hk.out.below hS hgEl; have s2 := (HM.out.below hS hgl).c0; clear hS; unfold Oper.wp; go_simp; first | done | exact Below.refl _ _)
    · (with_reducible refine FixB.of ?_ ?_; rfl; intro w' hS; have s0 := Hi.out.below hS hgEl; have s1 := Hk.out.below hS hgEl; have s2 := (HM.out.below hS hgl).c0; clear hS; unfold Oper.wp; go_simp; first | done | exact Below.refl _ _)
    · (with_reducible refine FixB.of ?_ ?_; rfl; intro w' hS; have s0 := Hi.out.below hS hgEl; have s1 := Hk.out.below hS hgEl; have s2 := (HM.out.below hS hgl).c0; clear hS; unfold Oper.wp; go_simp; first | done | exact Below.refl _ _)
    · (with_reducible refine FixB.of ?_ ?_; rfl; intro w' hS; have s0 := Hi.out.below hS hgEl; have s1 := Hk.out.below hS hgEl; have s2 := (HM.out.below hS hgl).c0; clear hS; unfold Oper.wp; go_simp; first | done | exact Below.refl _ _)
    · (with_reducible refine FixB.of ?_ ?_; rfl; intro w' hS; have s0 := Hi.out.below hS hgEl; have s1 := Hk.out.below hS hgEl; have s2 := (HM.out.below hS hgl).c0; clear hS; unfold Oper.wp; go_simp; first | done | exact Below.refl _ _)
    · (with_reducible refine FixB.of ?_ ?_; rfl; intro w' hS; have s0 := Hi.out.below hS hgEl; have s1 := Hk.out.below hS hgEl; have s2 := (HM.out.below hS hgl).c0; clear hS; unfold Oper.wp; go_simp; first | done | exact Below.refl _ _)
    · (with_reducible refine FixB.of ?_ ?_; rfl; intro w' hS; have s3 := Lib.hid hS; unfold Oper.wp; clear hS; go_simp; refine (times_any fi fk _ hvi).mono ?_; rintro e w1 ⟨rfl, hb⟩; exact ⟨rfl, hb⟩)
    · with_reducible refine FixB.of ?_ ?_
      rfl
      intro w' hS
      have s3 := Lib.hid hS
      unfold Oper.wp
      clear hS
      go_simp
      refine (place_any (mul fi fk) _ (H.out.below s3.out (Nat.le_refl _)) hE hvm Hpm.out).mono ?_
      rintro e w1 ⟨rfl, hb⟩
      exact ⟨congrArg (Value.int .i64) Hpl.out, hb⟩
    · (with_reducible refine FixB.of ?_ ?_; rfl; intro w' hS; clear hS; unfold Oper.wp; go_simp; first | done | exact Below.refl _ _)
  case hQ =>
    intro wc hS _
    have Hb := Lib.hid hS
    clear hS
    go_wp2
    go_ret
    exact ⟨rfl, Hb.out⟩
set_option maxRecDepth 100000
def PredC (fn : Nat) (caps : Array Value) (N : Nat) (p : Nat → Bool) (w : World) : Prop :=
  (∀ args w, (callFunc fn args).run Tryz.prog w = .ok (.enter fn args) w) ∧
  ∀ w', Below w.heap.size w w' → ∀ i, i < N → Calls Tryz.prog fn (#[I i] ++ caps) w' fun e w'' => e = .returned (.bool (p i)) ∧ Below w'.heap.size w' w''
theorem all_any {n : Int} {B g : Nat} {E : List M} {us : List (List Int)} (fn : Nat) (caps : Array Value) (p : Nat → Bool) (w : World) (h : MonAt n B g E us w) (hE : E.length ≤ 300) (hpos : 0 < E.length) (hc : PredC fn caps E.length p w) :
    Calls Tryz.prog 67 #[.pointer (some ⟨g, 0, none⟩), .func (.func fn) #[] caps] w fun e w' => e = .returned (.bool ((List.range E.length).all p)) ∧ Below w.heap.size w w' := by
  obtain ⟨eg, hc⟩ := hc
  obtain ⟨_, ev, wv, pl, vs, hM, hP, hO, _⟩ := h
  obtain ⟨gE, cE, rfl⟩ := hO.some_ (by omega)
  have c0 := hM.c0
  have Hc := Lib.hid hc
  clear hM hP hO hc
  go_enter Tryz.func67, Tryz.ntmps67
  go_wp2_with fail
  go_loopw [11] (fun i wr => ∃ r : Nat, i = .int .i64 r ∧ r ≤ E.length ∧ Below w.heap.size w wr ∧ (List.range r).all p = true) (fun i _ => E.length - (intOf i).toNat)
  case atStart => exact ⟨0, rfl, by omega, Below.refl _ _, rfl⟩
  case round =>
    obtain ⟨r, rfl, hr, hb, hp⟩ := hrel
    have Hb := Lib.hid hb
    have Hp := Lib.hid hp
    clear hb hp
    by_cases hrl : r < E.length
    · have hrE : (r : Int) < (E.length : Int) := by omega
      go_wp2_with fail
      refine (Hc.out _ Hb.out r hrl).mono ?_
      rintro e w2 ⟨rfl, hb2⟩
      have Hb2 := Lib.hid (Hb.out.trans (hb2.mono Hb.out.size))
      have hs : (List.range (r + 1)).all p = p r := by rw [List.range_succ, List.all_append, Hp.out]; simp
      clear hb2
      cases hpr : p r
      · have hall : (List.range E.length).all p = false := by
          rw [Bool.eq_false_iff, ne_eq, List.all_eq_true]
          intro h
          rw [h r (List.mem_range.2 hrl)] at hpr
          cases hpr
        go_wp2
        go_ret
        exact ⟨by rw [hall]; rfl, Hb2.out⟩
      · rw [hpr] at hs
        have Hs := Lib.hid hs
        clear hs
        go_wp2
        go_roundw
        case rel => exact ⟨r + 1, by go_num, by omega, Hb2.out, Hs.out⟩
        case measure => simp [intOf]; omega
    · obtain rfl : r = E.length := by omega
      have hrl' : ¬ ((E.length : Int) < (E.length : Int)) := by omega
      go_wp2
      go_ret
      exact ⟨by rw [Hp.out]; rfl, Hb.out⟩
theorem PredC.below {fn : Nat} {caps : Array Value} {N : Nat} {p : Nat → Bool} {w w' : World} (h : PredC fn caps N p w) (hb : Below w.heap.size w w') : PredC fn caps N p w' :=
  ⟨h.1, fun w2 hb2 i hi => h.2 w2 (hb.trans (hb2.mono hb.size)) i hi⟩
theorem only_any {n : Int} {B g : Nat} {E : List M} {us : List (List Int)} (fn : Nat) (caps : Array Value) (p : Nat → Bool) (w : World) (h : MonAt n B g E us w) (hE : E.length ≤ 300) (hpos : 0 < E.length) (hc : PredC fn caps E.length p w) :
    Calls Tryz.prog 91 #[.pointer (some ⟨g, 0, none⟩), .func (.func fn) #[] caps] w fun e w' => ∃ v, e = .returned v ∧ OwM 31 w' w.heap.size v (((List.range E.length).filter p).map (gm E)) ∧ Below w.heap.size w w' := by
  obtain ⟨eg, hc⟩ := hc
  have H := Lib.hid h
  obtain ⟨_, ev, wv, pl, vs, hM, hP, hO, _⟩ := h
  obtain ⟨gE, cE, rfl⟩ := hO.some_ (by omega)
  have c0 := hM.c0
  have Hc := Lib.hid hc
  have HO := Lib.hid hO
  clear hM hP hO hc
  go_enter Tryz.func91, Tryz.ntmps91
  go_wp2_with fail
  go_loopw [13, 5] (fun i v wr => ∃ r : Nat, i = .int .i64 r ∧ r ≤ E.length ∧ Below w.heap.size w wr ∧ OwM 31 wr w.heap.size v (((List.range r).filter p).map (gm E))) (fun i _ _ => E.length - (intOf i).toNat)
  case atStart => exact ⟨0, rfl, by omega, Below.refl _ _, OwM.nil_⟩
  case round =>
    obtain ⟨r, rfl, hr, hb, ho⟩ := hrel
    by_cases hrl : r < E.length
    · have hrE : (r : Int) < (E.length : Int) := by omega
      obtain ⟨f, hf⟩ : ∃ f, f = gm E r := ⟨_, rfl⟩
      have s0 : SixAt wr gE (r * 6) f := by
        have h6 := RdM.at_ (HO.out.below hb (Nat.le_refl _)).rd (k := r) hrl
        obtain ⟨b', off', e, _, h6⟩ := h6
        injection e with e
        injection e with e1 e2 _
        subst e1 e2
        rw [Nat.zero_add, ← hf] at h6
        exact h6
      have Hb := Lib.hid hb
      have Ho := Lib.hid ho
      have Hf := Lib.hid hf
      have hsz := hb.size
      clear hb ho hf
      go_wp2_with fail
      obtain ⟨wb, hwb⟩ : ∃ wb, wb = wr.alloc (.cells (mc f) 31) := ⟨_, rfl⟩
      have H6 : Hid (Six wb wr.heap.size f) := by show Six _ _ _; rw [hwb]; exact Blk.six (Blk.new wr _ _)
      have Hob := Lib.hid (Ho.out.alloc (.cells (mc f) 31))
      have Hbb := Lib.hid (Hb.out.alloc hsz (.cells (mc f) 31))
      have hlb : wb.heap.size = wr.heap.size + 1 := by rw [hwb]; simp
      rw [← hwb] at Hob Hbb ⊢
      clear hwb s0 Ho Hb
      refine (Hc.out _ Hbb.out r hrl).mono ?_
      rintro e w2 ⟨rfl, hb2⟩
      have Hb2 := Lib.hid (Hbb.out.trans (hb2.mono Hbb.out.size))
      have Ho2 := Lib.hid (Hob.out.below hb2 (Nat.le_refl _))
      have s0 := H6.out.below hb2 (by omega)
      have hsz2 := hb2.size
      have hs : ((List.range (r + 1)).filter p).map (gm E) = ((List.range r).filter p).map (gm E) ++ (if p r then [f] else []) := by
        rw [List.range_succ, List.filter_append, List.map_append, Hf.out]
        cases hpr : p r <;> simp [hpr]
      have Hs := Lib.hid hs
      clear hb2 hs Hob Hbb H6
      cases hpr : p r
      · have hs2 := Hs.out
        rw [hpr] at hs2
        simp only [Bool.false_eq_true, if_false, List.append_nil] at hs2
        have Hs2 := Lib.hid hs2
        clear hs2 s0
        go_wp2
        go_roundw
        case rel => exact ⟨r + 1, by go_num, by omega, Hb2.out, by rw [Hs2.out]; exact Ho2.out⟩
        case measure => simp [intOf]; omega
      · have hs2 := Hs.out
        rw [hpr] at hs2
        simp only [if_true] at hs2
        have Hs2 := Lib.hid hs2
        obtain ⟨Lr, hL⟩ : ∃ Lr, Lr = ((List.range r).filter p).map (gm E) := ⟨_, rfl⟩
        rw [← hL] at Ho2 Hs2
        have hN : Lr.length ≤ 300 := by
          rw [hL, List.length_map]
          have := List.length_filter_le p (List.range r)
          rw [List.length_range] at this
          omega
        obtain ⟨A, cA, hv, _⟩ := Ho2.out.form
        subst hv
        obtain ⟨N, hNN⟩ : ∃ N, Lr.length = N := ⟨_, rfl⟩
        rw [hNN] at Ho2 hN ⊢
        have HN := Lib.hid hNN
        have hsw : w.heap.size ≤ w2.heap.size := by omega
        clear hs2 hL hNN
        go_wp2_with (at_builtin; refine wpList_pushM rfl (.tmp 21) (.tmp 23) rfl w.heap.size (.slice A N cA) Lr rfl (Ho2.out.alloc _) N HN.out w2.heap.size 1 f rfl (Blk.six (Blk.new _ _ _)) (by omega) (by simp; omega) (w2.heap.size + 1) (by simp) ?_; intro g' cap w4 ho' hgr hg' hlt')
        have Hb4 := Lib.hid (((Ho2.out.alloc _).bel (Hb2.out.alloc hsw _) hgr (Nat.le_refl _) (by simp; omega)))
        have Ho4 := Lib.hid ho'
        clear ho' hgr hg' hlt'
        go_wp2
        go_roundw
        case rel => exact ⟨r + 1, by go_num, by omega, Hb4.out, by rw [Hs2.out]; exact Ho4.out⟩
        case measure => simp [intOf]; omega
    · obtain rfl : r = E.length := by omega
      have hrl' : ¬ ((E.length : Int) < (E.length : Int)) := by omega
      have Hb := Lib.hid hb
      have Ho := Lib.hid ho
      clear hb ho
      go_wp2
      go_ret
      exact ⟨_, rfl, Ho.out, Hb.out⟩
end Go.Proofs.YtchjegojcpbfpaaGreat
