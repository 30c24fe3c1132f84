/- Words for slices: what a slice reads as, rows that the call owns, and the append of one element; no conditions beyond those that each theorem states. -/
import Derived.Test.YtkbfocoaobiijaaProg
import Derived.Test.YtkbfocoaobiijaaBase
import Derived.OwnWalk
import Derived.Deep.AppendLies
import Derived.KernelRfl
namespace Go.Proofs.Ytkbfocoaobiijaa
open Go.RowKit
set_option maxRecDepth 100000

/-- a slice at A of n elements of k cells each reads as the cells cs; it lies below block B -/
def Rd (k : Nat) (w : World) (B : Nat) (A : Option Addr) (n : Nat) (cs : List Value) : Prop :=
  cs.length = n * k ∧ (0 < n → ∃ b off, A = some ⟨b, off, none⟩ ∧ b < B ∧ ∀ j u, cs[j]? = some u → w.cell? ⟨b, off + j, none⟩ = some u)

section
variable {k n B B' : Nat} {w w' : World} {A : Option Addr} {cs : List Value}
theorem Rd.keep (h : Rd k w B A n cs) (hk : ∀ p : Addr, p.block < B → w'.cell? p = w.cell? p) : Rd k w' B A n cs :=
  ⟨h.1, fun hn => by
    obtain ⟨b, off, e, hb, hc⟩ := h.2 hn
    exact ⟨b, off, e, hb, fun j u hu => (hk ⟨b, off + j, none⟩ hb).trans (hc j u hu)⟩⟩
theorem Rd.more (h : Rd k w B A n cs) (hB : B ≤ B') : Rd k w B' A n cs :=
  ⟨h.1, fun hn => by
    obtain ⟨b, off, e, hb, hc⟩ := h.2 hn
    exact ⟨b, off, e, by omega, hc⟩⟩
theorem Rd.below (h : Rd k w B A n cs) (hb : Below B w w') : Rd k w' B A n cs := h.keep fun _ hp => hb.cell hp
theorem Rd.below' {m : Nat} (h : Rd k w B A n cs) (hb : Below m w w') (hm : B ≤ m) : Rd k w' B A n cs := h.keep fun _ hp => hb.cell (by omega)
theorem Rd.drewN (h : Rd k w B A n cs) (m : Nat) : Rd k (w.drewN m) B A n cs := h
theorem Rd.drew (h : Rd k w B A n cs) : Rd k w.drew B A n cs := h
theorem Rd.alloc (h : Rd k w B A n cs) (hB : B ≤ w.heap.size) (o : Obj) : Rd k (w.alloc o) B A n cs := h.keep fun p hp => World.cell?_alloc_lt w o p (by omega)
theorem Rd.setCell (h : Rd k w B A n cs) {p : Addr} (hB : B ≤ p.block) (u : Value) : Rd k (w.setCell p u) B A n cs :=
  h.keep fun q hq => World.cell?_setCell_other w p q u (fun e => by subst e; omega)
theorem Rd.grown (h : Rd k w B A n cs) {row : Option Nat} (hg : w.grownBy w' row) (hB : B ≤ w.heap.size) (hr : ∀ g, row = some g → B ≤ g) : Rd k w' B A n cs :=
  h.keep fun p hp => World.cell?_of_block (hg.block p.block (by omega) (fun e => by have := hr _ e.symm; omega))
theorem Rd.nil_ : Rd k w B A 0 [] := ⟨by simp, fun h => absurd h (by omega)⟩
theorem Rd.of_own {base : Nat} {e : TypeId} {c : Nat} (h : w.ownsRow base e k (.slice A n c) n cs) : Rd k w w.heap.size A n cs := by
  refine ⟨h.1, fun hn => ?_⟩
  rcases h.2 with ⟨_, h0⟩ | ⟨g, cap, cur, hv, _, hg, _, _, _, ht⟩
  · omega
  · injection hv with hA _ _
    subst hA
    refine ⟨g, 0, rfl, (Array.getElem?_eq_some_iff.1 hg).1, fun j u hu => ?_⟩
    rw [Nat.zero_add, cell_of_row w g j cur e (0, 0) hg]
    rw [← ht, List.getElem?_take] at hu
    split at hu
    · simpa using hu
    · cases hu
end

/-! ### rows of numbers -/
def cI (zs : List Int) : List Value := zs.map I
def gi (zs : List Int) (k : Nat) : Int := zs.getD k 0
theorem gi_eq {zs : List Int} {k : Nat} (hk : k < zs.length) : gi zs k = zs[k] := by simp [gi, List.getD, hk]
theorem cI_length (zs : List Int) : (cI zs).length = zs.length := by simp [cI]
theorem cI_get {zs : List Int} {k : Nat} (hk : k < zs.length) : (cI zs)[k]? = some (I (gi zs k)) := by simp [cI, gi, List.getD, hk]
theorem cI_snoc (zs : List Int) (z : Int) : cI (zs ++ [z]) = cI zs ++ [I z] := by simp [cI]

def RdI (w : World) (B : Nat) (A : Option Addr) (zs : List Int) : Prop := Rd 1 w B A zs.length (cI zs)
theorem RdI.at_ {w : World} {B : Nat} {A : Option Addr} {zs : List Int} (h : RdI w B A zs) {k : Nat} (hk : k < zs.length) :
    ∃ b off, A = some ⟨b, off, none⟩ ∧ b < B ∧ w.cell? ⟨b, off + k, none⟩ = some (I (gi zs k)) := by
  obtain ⟨b, off, e, hb, hc⟩ := h.2 (by omega)
  exact ⟨b, off, e, hb, hc k _ (cI_get hk)⟩

/-- the slice v owns a row of the numbers zs (element type e), in a block from B on -/
def OwI (e : TypeId) (w : World) (B : Nat) (v : Value) (zs : List Int) : Prop := w.ownsRow B e 1 v zs.length (cI zs)
section
variable {e : TypeId} {w w' : World} {B B' : Nat} {v : Value} {zs : List Int}
theorem OwI.form (h : OwI e w B v zs) : ∃ A c, v = .slice A zs.length c ∧ RdI w w.heap.size A zs := by
  rcases h.2 with ⟨rfl, h0⟩ | ⟨g, cap, cur, rfl, _⟩
  · have hz : zs = [] := List.eq_nil_of_length_eq_zero h0
    subst hz
    exact ⟨none, 0, rfl, Rd.nil_⟩
  · exact ⟨_, _, rfl, Rd.of_own h⟩
theorem OwI.lt (h : OwI e w B v zs) : ∀ g, v.ownBlock = some g → B ≤ g ∧ g < w.heap.size := World.ownsRow.lt h
theorem OwI.mono (h : OwI e w B v zs) (hB : B' ≤ B) : OwI e w B' v zs := by
  refine ⟨h.1, ?_⟩
  rcases h.2 with hn | ⟨g, cap, cur, hv, hg, rest⟩
  · exact .inl hn
  · exact .inr ⟨g, cap, cur, hv, by omega, rest⟩
theorem OwI.keep (h : OwI e w B v zs) (hk : ∀ g, v.ownBlock = some g → w'.heap[g]? = w.heap[g]?) : OwI e w' B v zs := by
  refine ⟨h.1, ?_⟩
  rcases h.2 with hn | ⟨g, cap, cur, rfl, hg, hh, rest⟩
  · exact .inl hn
  · exact .inr ⟨g, cap, cur, rfl, hg, by rw [hk g rfl]; exact hh, rest⟩
theorem OwI.below {m : Nat} (h : OwI e w B v zs) (hb : Below m w w') (hm : w.heap.size ≤ m) : OwI e w' B v zs :=
  h.keep fun g hg => hb.block g (by have := h.lt g hg; omega)
theorem OwI.alloc (h : OwI e w B v zs) (o : Obj) : OwI e (w.alloc o) B v zs := h.keep fun g hg => Below.heap_alloc w o g (h.lt g hg).2
theorem OwI.drew (h : OwI e w B v zs) : OwI e w.drew B v zs := h
theorem OwI.drewN (h : OwI e w B v zs) (n : Nat) : OwI e (w.drewN n) B v zs := h
theorem OwI.far (h : OwI e w B v zs) {p : Addr} (hp : v.ownBlock ≠ some p.block) (u : Value) : OwI e (w.setCell p u) B v zs :=
  h.keep fun g hg => Below.heap_setCell w p u g (fun e => hp (by rw [hg, e]))
theorem OwI.ne (h : OwI e w B v zs) {g : Nat} (hg : g < B) : some g ≠ v.ownBlock := fun he => by have := h.lt g he.symm; omega
theorem OwI.bel (h : OwI e w B v zs) {n : Nat} {w0 : World} (hb : Below n w0 w) (hg : w.grownBy w' v.ownBlock) (hB : n ≤ B) (hs : n ≤ w.heap.size) : Below n w0 w' :=
  hb.grown hg hs fun k hk => by have := h.lt k hk; omega
/-- a store into the row -/
theorem OwI.spot (h : OwI e w B v zs) {k : Nat} (hk : k < zs.length) : ∃ g c, v = .slice (some ⟨g, 0, none⟩) zs.length c ∧ B ≤ g ∧ g < w.heap.size ∧ w.cell? ⟨g, k, none⟩ = some (I (gi zs k)) ∧ w.frozen? ⟨g, k, none⟩ = false ∧
    ∀ z, OwI e (w.setCell ⟨g, k, none⟩ (I z)) B v (zs.set k z) := by
  rcases h.2 with ⟨_, h0⟩ | ⟨g, cap, cur, rfl, hg, hh, hn, hm, hs, ht⟩
  · omega
  · have hcell : w.cell? ⟨g, k, none⟩ = some (I (gi zs k)) := by
      rw [cell_of_row w g k cur e (0, 0) hh]
      have := cI_get hk
      rw [← ht, List.getElem?_take] at this
      split at this
      · simpa using this
      · cases this
    refine ⟨g, cap, rfl, hg, (Array.getElem?_eq_some_iff.1 hh).1, hcell, by simp [World.frozen?, hh], fun z => ⟨by simp [cI], .inr ⟨g, cap, cur.setIfInBounds k (I z), by simp, hg, ?_, by simpa using hn, hm, by simpa using hs, ?_⟩⟩⟩
    · simp [World.setCell, Array.getElem?_modify, hh]
    · rw [Array.toList_setIfInBounds, List.take_set, List.length_set, ht]
      simp [cI, List.map_set]
theorem OwI.of_heap (h : OwI e w B v zs) (hh : w'.heap = w.heap) : OwI e w' B v zs := h.keep fun g _ => by rw [hh]
theorem OwI.nil_ : OwI e w B (.slice none 0 0) [] := World.ownsRow_nil w B e 1
theorem OwI.made' {n : Nat} (hn : n = w.heap.size) (hb : B ≤ n) : OwI e (w.alloc (.cells #[] e)) B (.slice (some ⟨n, 0, none⟩) 0 0) [] := by
  subst hn; exact World.ownsRow_made w #[] 0 hb (by simp [maxLen]) (by simp)
theorem OwI.made (hb : B ≤ w.heap.size) : OwI e (w.alloc (.cells #[] e)) B (.slice (some ⟨w.heap.size, 0, none⟩) 0 0) [] :=
  World.ownsRow_made w #[] 0 hb (by simp [maxLen]) (by simp)
end

theorem grownBy_set {w w' : World} {g k : Nat} {n c : Nat} {u : Value} (h : w.grownBy w' (Value.slice (some ⟨g, 0, none⟩) n c).ownBlock) : w.grownBy (w'.setCell ⟨g, k, none⟩ u) (Value.slice (some ⟨g, 0, none⟩) n c).ownBlock :=
  ⟨h.os, h.tape, h.output, by simpa [World.setCell] using h.size, fun j hj hne => (Below.heap_setCell w' _ u j (fun e => hne (by simp [Value.ownBlock, e]))).trans (h.block j hj hne)⟩

/-! ### the element types -/
theorem infoI : (Try.prog.info? 2).map (fun i => (i.zero, i.size, i.bytes)) = some (some (.int .i64 0), 1, 8) := by kernel_rfl

set_option maxRecDepth 100000 in
/-- append of one number to a row of the call's own -/
theorem wpList_pushI {w : World} {ops : Array Oper} {rest : List Oper} {o : Oper} {a : Act} {Q : Exit → Act → World → Prop} (hgd : o.guard = none) (s x : Operand)
    (ho : o.op = .call { callee := .builtin .append, args := #[s, x], argTypes := #[34, 34] }) (B : Nat) (v : Value) (zs : List Int) (hs : a.eval s = v) (hown : OwI 2 w B v zs)
    (g : Nat) (c : Nat) (z : Int) (hx : a.eval x = .slice (some ⟨g, 0, none⟩) 1 c) (hg : w.cell? ⟨g, 0, none⟩ = some (I z))
    (hn : zs.length < 1073741824) (hB : B ≤ w.heap.size) (H : Nat) (hH : w.heap.size = H)
    (h : ∀ g' cap w', OwI 2 w' B (.slice (some ⟨g', 0, none⟩) (zs.length + 1) cap) (zs ++ [z]) → w.grownBy w' v.ownBlock → (v.ownBlock = some g' ∨ g' = H) → g' < w'.heap.size →
      wpList Try.prog ops Q rest (a.put o.dst (.slice (some ⟨g', 0, none⟩) (zs.length + 1) cap)) w') : wpList Try.prog ops Q (o :: rest) a w := by
  obtain ⟨i, hi, hz0, hz1, hz2⟩ := info_parts infoI
  refine wpList_append_lies w hgd s x 34 ho B 2 i (.int .i64 0) 1 8 Try.underlying34 hi hz0 hz1 hz2 rfl (by decide) v zs.length (cI zs) hs hown ⟨g, 0, none⟩ 1 c [I z] hx rfl ?_ ?_ (by decide) (by unfold maxLen; omega) (by omega) hB H hH ?_
  · intro j u hj
    match j, hj with
    | 0, hj => simp at hj; subst hj; simpa [Addr.add] using hg
  · intro u hu; simp at hu; subst hu; rfl
  · intro g' cap w' h1 h2 h3 h4
    exact h g' cap w' (by unfold OwI; rw [cI_snoc]; simpa using h1) h2 h3 h4

set_option maxRecDepth 100000 in
/-- append of all numbers of a slice that is not empty -/
theorem wpList_appI {w : World} {ops : Array Oper} {rest : List Oper} {o : Oper} {a : Act} {Q : Exit → Act → World → Prop} (hgd : o.guard = none) (s x : Operand)
    (ho : o.op = .call { callee := .builtin .append, args := #[s, x], argTypes := #[34, 34] }) (B : Nat) (v : Value) (zs : List Int) (hs : a.eval s = v) (hown : OwI 2 w B v zs)
    (b off c : Nat) (ys : List Int) (hx : a.eval x = .slice (some ⟨b, off, none⟩) ys.length c) (hy : RdI w w.heap.size (some ⟨b, off, none⟩) ys) (hpos : 0 < ys.length)
    (hn : zs.length + ys.length < 1073741824) (hB : B ≤ w.heap.size) (H : Nat) (hH : w.heap.size = H)
    (h : ∀ g' cap w', OwI 2 w' B (.slice (some ⟨g', 0, none⟩) (zs.length + ys.length) cap) (zs ++ ys) → w.grownBy w' v.ownBlock → (v.ownBlock = some g' ∨ g' = H) → g' < w'.heap.size →
      wpList Try.prog ops Q rest (a.put o.dst (.slice (some ⟨g', 0, none⟩) (zs.length + ys.length) cap)) w') : wpList Try.prog ops Q (o :: rest) a w := by
  obtain ⟨i, hi, hz0, hz1, hz2⟩ := info_parts infoI
  refine wpList_append_lies w hgd s x 34 ho B 2 i (.int .i64 0) 1 8 Try.underlying34 hi hz0 hz1 hz2 rfl (by decide) v zs.length (cI zs) hs hown ⟨b, off, none⟩ ys.length c (cI ys) hx (by simp [cI]) ?_ ?_ hpos (by unfold maxLen; omega) (by omega) hB H hH ?_
  · intro j u hj
    obtain ⟨b', off', e, _, hc⟩ := hy.2 hpos
    injection e with e
    injection e with e1 e2
    subst e1 e2
    have := hc j u hj
    unfold Addr.add
    split
    · rename_i h0; subst h0; simpa using this
    · exact this
  · intro u hu; simp [cI] at hu; obtain ⟨z, _, rfl⟩ := hu; rfl
  · intro g' cap w' h1 h2 h3 h4
    exact h g' cap w' (by unfold OwI; simpa [cI] using h1) h2 h3 h4
end Go.Proofs.Ytkbfocoaobiijaa
