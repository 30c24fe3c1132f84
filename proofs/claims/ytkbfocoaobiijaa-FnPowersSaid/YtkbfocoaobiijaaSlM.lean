/- Words for slices of maps: what a slice reads as, rows that the call owns, and the append of one map; no conditions beyond those that each theorem states. -/
import Derived.Test.YtkbfocoaobiijaaSl
namespace Go.Proofs.Ytkbfocoaobiijaa
open Go.RowKit
set_option maxRecDepth 100000

/-- the cells of a list of maps -/
def mcs (ms : List M) : List Value := ms.flatMap fun m => (mc m).toList
def gm (ms : List M) (k : Nat) : M := ms.getD k M0
theorem mcs_nil : mcs [] = [] := rfl
theorem mcs_cons (m : M) (ms : List M) : mcs (m :: ms) = (mc m).toList ++ mcs ms := by simp [mcs]
theorem mcs_app (xs ys : List M) : mcs (xs ++ ys) = mcs xs ++ mcs ys := by simp [mcs]
theorem mcs_length : ∀ ms : List M, (mcs ms).length = ms.length * 6
  | [] => rfl
  | m :: ms => by rw [mcs_cons, List.length_append, mcs_length ms]; simp; omega
theorem gm_eq {ms : List M} {k : Nat} (hk : k < ms.length) : gm ms k = ms[k] := by simp [gm, List.getD, hk]
theorem gm_cons_succ (m : M) (ms : List M) (k : Nat) : gm (m :: ms) (k + 1) = gm ms k := by simp [gm]
theorem mcs_get : ∀ {ms : List M} {k j : Nat}, k < ms.length → j < 6 → (mcs ms)[k * 6 + j]? = (mc (gm ms k)).toList[j]?
  | [], k, _, h, _ => by simp at h
  | m :: ms, 0, j, _, hj => by
    rw [mcs_cons, List.getElem?_append_left (by simpa using by omega)]
    simp [gm]
  | m :: ms, k + 1, j, h, hj => by
    rw [mcs_cons, List.getElem?_append_right (by simp; omega), gm_cons_succ]
    have := mcs_get (ms := ms) (k := k) (j := j) (by simpa using h) hj
    rw [← this]
    congr 1
    simp; omega
theorem mcs_one {ms : List M} : ∀ u ∈ mcs ms, u.oneCell' = true := by
  intro u hu
  obtain ⟨m, _, hu⟩ := List.mem_flatMap.1 hu
  simp at hu
  rcases hu with rfl | rfl | rfl | rfl | rfl | rfl <;> rfl

/-- a map's struct stands in block g from place o on -/
abbrev SixAt (w : World) (g o : Nat) (m : M) : Prop := w.cell? ⟨g, o, none⟩ = some (I m.p) ∧ w.cell? ⟨g, o + 1, none⟩ = some (I m.t0) ∧ w.cell? ⟨g, o + 2, none⟩ = some (I m.t1) ∧ w.cell? ⟨g, o + 3, none⟩ = some (I m.t2) ∧ w.cell? ⟨g, o + 4, none⟩ = some (I m.t3) ∧ w.cell? ⟨g, o + 5, none⟩ = some (I m.t4)

theorem SixAt.lt {w : World} {g o : Nat} {m : M} (h : SixAt w g o m) : g < w.heap.size := World.block_lt_of_cell? w ⟨g, o, none⟩ h.1
theorem SixAt.keep {w w' : World} {g o : Nat} {m : M} (h : SixAt w g o m) (k : ∀ q, w'.cell? ⟨g, q, none⟩ = w.cell? ⟨g, q, none⟩) : SixAt w' g o m :=
  ⟨(k _).trans h.1, (k _).trans h.2.1, (k _).trans h.2.2.1, (k _).trans h.2.2.2.1, (k _).trans h.2.2.2.2.1, (k _).trans h.2.2.2.2.2⟩
theorem SixAt.below {w w' : World} {g o n : Nat} {m : M} (h : SixAt w g o m) (hb : Below n w w') (hg : g < n) : SixAt w' g o m := h.keep fun q => hb.cell (p := ⟨g, q, none⟩) hg
theorem SixAt.alloc {w : World} {g o : Nat} {m : M} (h : SixAt w g o m) (ob : Obj) : SixAt (w.alloc ob) g o m := h.keep fun q => World.cell?_of_block (w := w) (a := ⟨g, q, none⟩) (Below.heap_alloc w ob g h.lt)
theorem SixAt.far {w : World} {g o : Nat} {m : M} (h : SixAt w g o m) {p : Addr} (hp : g ≠ p.block) (u : Value) : SixAt (w.setCell p u) g o m := h.keep fun q => World.cell?_of_block (w := w) (a := ⟨g, q, none⟩) (Below.heap_setCell w p u g hp)
theorem SixAt.st6 {w : World} {g o q : Nat} {m0 : M} (h : SixAt w g o m0) (hq : g ≠ q) (m : M) : SixAt (Go.Proofs.Ytkbfocoaobiijaa.st6 w q m) g o m0 :=
  (((((h.far (p := ⟨q, 0, none⟩) hq _).far (p := ⟨q, 1, none⟩) hq _).far (p := ⟨q, 2, none⟩) hq _).far (p := ⟨q, 3, none⟩) hq _).far (p := ⟨q, 4, none⟩) hq _).far (p := ⟨q, 5, none⟩) hq _

def RdM (w : World) (B : Nat) (A : Option Addr) (ms : List M) : Prop := Rd 6 w B A ms.length (mcs ms)
theorem RdM.at_ {w : World} {B : Nat} {A : Option Addr} {ms : List M} (h : RdM w B A ms) {k : Nat} (hk : k < ms.length) :
    ∃ b off, A = some ⟨b, off, none⟩ ∧ b < B ∧ SixAt w b (off + k * 6) (gm ms k) := by
  obtain ⟨b, off, e, hb, hc⟩ := h.2 (by omega)
  have key : ∀ j u, j < 6 → (mc (gm ms k)).toList[j]? = some u → w.cell? ⟨b, off + k * 6 + j, none⟩ = some u := by
    intro j u hj hu
    rw [← mcs_get hk hj] at hu
    rw [Nat.add_assoc]
    exact hc _ u hu
  exact ⟨b, off, e, hb, key 0 _ (by omega) rfl, key 1 _ (by omega) rfl, key 2 _ (by omega) rfl, key 3 _ (by omega) rfl, key 4 _ (by omega) rfl, key 5 _ (by omega) rfl⟩

/-- the slice v owns a row of the maps ms (element type e), in a block from B on -/
def OwM (e : TypeId) (w : World) (B : Nat) (v : Value) (ms : List M) : Prop := w.ownsRow B e 6 v ms.length (mcs ms)
section
variable {e : TypeId} {w w' : World} {B B' : Nat} {v : Value} {ms : List M}
theorem OwM.form (h : OwM e w B v ms) : ∃ A c, v = .slice A ms.length c ∧ RdM w w.heap.size A ms := by
  rcases h.2 with ⟨rfl, h0⟩ | ⟨g, cap, cur, rfl, _⟩
  · have hz : ms = [] := List.eq_nil_of_length_eq_zero h0
    subst hz
    exact ⟨none, 0, rfl, Rd.nil_⟩
  · exact ⟨_, _, rfl, Rd.of_own h⟩
theorem OwM.lt (h : OwM e w B v ms) : ∀ g, v.ownBlock = some g → B ≤ g ∧ g < w.heap.size := World.ownsRow.lt h
theorem OwM.mono (h : OwM e w B v ms) (hB : B' ≤ B) : OwM e w B' v ms := by
  refine ⟨h.1, ?_⟩
  rcases h.2 with hn | ⟨g, cap, cur, hv, hg, rest⟩
  · exact .inl hn
  · exact .inr ⟨g, cap, cur, hv, by omega, rest⟩
theorem OwM.keep (h : OwM e w B v ms) (hk : ∀ g, v.ownBlock = some g → w'.heap[g]? = w.heap[g]?) : OwM e w' B v ms := by
  refine ⟨h.1, ?_⟩
  rcases h.2 with hn | ⟨g, cap, cur, rfl, hg, hh, rest⟩
  · exact .inl hn
  · exact .inr ⟨g, cap, cur, rfl, hg, by rw [hk g rfl]; exact hh, rest⟩
theorem OwM.below {m : Nat} (h : OwM e w B v ms) (hb : Below m w w') (hm : w.heap.size ≤ m) : OwM e w' B v ms :=
  h.keep fun g hg => hb.block g (by have := h.lt g hg; omega)
theorem OwM.alloc (h : OwM e w B v ms) (o : Obj) : OwM e (w.alloc o) B v ms := h.keep fun g hg => Below.heap_alloc w o g (h.lt g hg).2
theorem OwM.drew (h : OwM e w B v ms) : OwM e w.drew B v ms := h
theorem OwM.drewN (h : OwM e w B v ms) (n : Nat) : OwM e (w.drewN n) B v ms := h
theorem OwM.far (h : OwM e w B v ms) {p : Addr} (hp : v.ownBlock ≠ some p.block) (u : Value) : OwM e (w.setCell p u) B v ms :=
  h.keep fun g hg => Below.heap_setCell w p u g (fun e => hp (by rw [hg, e]))
theorem OwM.ne (h : OwM e w B v ms) {g : Nat} (hg : g < B) : some g ≠ v.ownBlock := fun he => by have := h.lt g he.symm; omega
theorem OwM.bel (h : OwM e w B v ms) {n : Nat} {w0 : World} (hb : Below n w0 w) (hg : w.grownBy w' v.ownBlock) (hB : n ≤ B) (hs : n ≤ w.heap.size) : Below n w0 w' :=
  hb.grown hg hs fun k hk => by have := h.lt k hk; omega
theorem OwM.of_heap (h : OwM e w B v ms) (hh : w'.heap = w.heap) : OwM e w' B v ms := h.keep fun g _ => by rw [hh]
theorem OwM.nil_ : OwM e w B (.slice none 0 0) [] := World.ownsRow_nil w B e 6
theorem OwM.made (hb : B ≤ w.heap.size) : OwM e (w.alloc (.cells #[] e)) B (.slice (some ⟨w.heap.size, 0, none⟩) 0 0) [] :=
  World.ownsRow_made w #[] 0 hb (by simp [maxLen]) (by simp)
/-- a slice literal of one map -/
theorem OwM.one {m : M} (hb : B ≤ w.heap.size) : OwM e (w.alloc (.cells (mc m) e)) B (.slice (some ⟨w.heap.size, 0, none⟩) 1 1) [m] :=
  ⟨by simp [mcs], .inr ⟨w.heap.size, 1, mc m, rfl, hb, heap_alloc_new w _, Nat.le_refl _, by simp [maxLen], rfl, by simp [mcs]⟩⟩
end

theorem infoM : (Try.prog.info? 26).map (fun i => (i.zero, i.size, i.bytes)) = some (some (.agg (mc M0)), 6, 48) := by kernel_rfl

set_option maxRecDepth 100000 in
/-- append of one map to a row of the call's own -/
theorem wpList_pushM {w : World} {ops : Array Oper} {rest : List Oper} {o : Oper} {a : Act} {Q : Exit → Act → World → Prop} (hgd : o.guard = none) (s x : Operand)
    (ho : o.op = .call { callee := .builtin .append, args := #[s, x], argTypes := #[75, 75] }) (B : Nat) (v : Value) (ms : List M) (hs : a.eval s = v) (hown : OwM 26 w B v ms) (n : Nat) (hlen : ms.length = n)
    (g : Nat) (c : Nat) (m : M) (hx : a.eval x = .slice (some ⟨g, 0, none⟩) 1 c) (hg : Six w g m)
    (hn : n < 1073741824) (hB : B ≤ w.heap.size) (H : Nat) (hH : w.heap.size = H)
    (h : ∀ g' cap w', OwM 26 w' B (.slice (some ⟨g', 0, none⟩) (n + 1) cap) (ms ++ [m]) → w.grownBy w' v.ownBlock → (v.ownBlock = some g' ∨ g' = H) → g' < w'.heap.size →
      wpList Try.prog ops Q rest (a.put o.dst (.slice (some ⟨g', 0, none⟩) (n + 1) cap)) w') : wpList Try.prog ops Q (o :: rest) a w := by
  subst hlen
  obtain ⟨i, hi, hz0, hz1, hz2⟩ := info_parts infoM
  refine wpList_append_lies w hgd s x 75 ho B 26 i (.agg (mc M0)) 6 48 Try.underlying75 hi hz0 hz1 hz2 rfl (by decide) v ms.length (mcs ms) hs hown ⟨g, 0, none⟩ 1 c (mc m).toList hx rfl ?_ ?_ (by decide) (by unfold maxLen; omega) (by omega) hB H hH ?_
  · intro j u hj
    obtain ⟨c0, c1, c2, c3, c4, c5⟩ := hg
    match j, hj with
    | 0, hj => simp at hj; subst hj; exact c0
    | 1, hj => simp at hj; subst hj; exact c1
    | 2, hj => simp at hj; subst hj; exact c2
    | 3, hj => simp at hj; subst hj; exact c3
    | 4, hj => simp at hj; subst hj; exact c4
    | 5, hj => simp at hj; subst hj; exact c5
    | n + 6, hj => simp at hj
  · intro u hu; simp at hu; rcases hu with rfl | rfl | rfl | rfl | rfl | rfl <;> rfl
  · intro g' cap w' h1 h2 h3 h4
    exact h g' cap w' (by unfold OwM; rw [mcs_app]; simpa [mcs] using h1) h2 h3 h4
end Go.Proofs.Ytkbfocoaobiijaa
