/- Words for slices of bytes that the call owns, and the append of one byte; no conditions beyond those that each theorem states. -/
import Derived.Test.YtfadakdalijjfaaSl
import Derived.Laws.IdiomStrings
namespace Go.Proofs.Ytfadakdalijjfaa
open Go.RowKit
set_option maxRecDepth 100000

def cB (zs : List UInt8) : List Value := zs.map fun b => .int .u8 (b.toNat : Int)
theorem cB_length (zs : List UInt8) : (cB zs).length = zs.length := by simp [cB]
def RdB (w : World) (B : Nat) (A : Option Addr) (zs : List UInt8) : Prop := Rd 1 w B A zs.length (cB zs)

/-- the slice v owns a row of the bytes zs (element type e), in a block from B on -/
def OwB (e : TypeId) (w : World) (B : Nat) (v : Value) (zs : List UInt8) : Prop := w.ownsRow B e 1 v zs.length (cB zs)
section
variable {e : TypeId} {w w' : World} {B B' : Nat} {v : Value} {zs : List UInt8}
theorem OwB.form (h : OwB e w B v zs) : ∃ A c, v = .slice A zs.length c ∧ RdB w w.heap.size A zs := by
  rcases h.2 with ⟨rfl, h0⟩ | ⟨g, cap, cur, rfl, _⟩
  · have hz : zs = [] := List.eq_nil_of_length_eq_zero h0
    subst hz
    exact ⟨none, 0, rfl, Rd.nil_⟩
  · exact ⟨_, _, rfl, Rd.of_own h⟩
theorem OwB.lt (h : OwB e w B v zs) : ∀ g, v.ownBlock = some g → B ≤ g ∧ g < w.heap.size := World.ownsRow.lt h
theorem OwB.mono (h : OwB e w B v zs) (hB : B' ≤ B) : OwB e w B' v zs := by
  refine ⟨h.1, ?_⟩
  rcases h.2 with hn | ⟨g, cap, cur, hv, hg, rest⟩
  · exact .inl hn
  · exact .inr ⟨g, cap, cur, hv, by omega, rest⟩
theorem OwB.keep (h : OwB e w B v zs) (hk : ∀ g, v.ownBlock = some g → w'.heap[g]? = w.heap[g]?) : OwB e w' B v zs := by
  refine ⟨h.1, ?_⟩
  rcases h.2 with hn | ⟨g, cap, cur, rfl, hg, hh, rest⟩
  · exact .inl hn
  · exact .inr ⟨g, cap, cur, rfl, hg, by rw [hk g rfl]; exact hh, rest⟩
theorem OwB.below {m : Nat} (h : OwB e w B v zs) (hb : Below m w w') (hm : w.heap.size ≤ m) : OwB e w' B v zs :=
  h.keep fun g hg => hb.block g (by have := h.lt g hg; omega)
theorem OwB.alloc (h : OwB e w B v zs) (o : Obj) : OwB e (w.alloc o) B v zs := h.keep fun g hg => Below.heap_alloc w o g (h.lt g hg).2
theorem OwB.drew (h : OwB e w B v zs) : OwB e w.drew B v zs := h
theorem OwB.drewN (h : OwB e w B v zs) (n : Nat) : OwB e (w.drewN n) B v zs := h
theorem OwB.far (h : OwB e w B v zs) {p : Addr} (hp : v.ownBlock ≠ some p.block) (u : Value) : OwB e (w.setCell p u) B v zs :=
  h.keep fun g hg => Below.heap_setCell w p u g (fun e => hp (by rw [hg, e]))
theorem OwB.ne (h : OwB e w B v zs) {g : Nat} (hg : g < B) : some g ≠ v.ownBlock := fun he => by have := h.lt g he.symm; omega
theorem OwB.bel (h : OwB e w B v zs) {n : Nat} {w0 : World} (hb : Below n w0 w) (hg : w.grownBy w' v.ownBlock) (hB : n ≤ B) (hs : n ≤ w.heap.size) : Below n w0 w' :=
  hb.grown hg hs fun k hk => by have := h.lt k hk; omega
theorem OwB.of_heap (h : OwB e w B v zs) (hh : w'.heap = w.heap) : OwB e w' B v zs := h.keep fun g _ => by rw [hh]
theorem OwB.nil_ : OwB e w B (.slice none 0 0) [] := World.ownsRow_nil w B e 1
theorem OwB.made' {n : Nat} (hn : n = w.heap.size) (hb : B ≤ n) : OwB e (w.alloc (.cells #[] e)) B (.slice (some ⟨n, 0, none⟩) 0 0) [] := by
  subst hn; exact World.ownsRow_made w #[] 0 hb (by simp [maxLen]) (by simp)
theorem OwB.made (hb : B ≤ w.heap.size) : OwB e (w.alloc (.cells #[] e)) B (.slice (some ⟨w.heap.size, 0, none⟩) 0 0) [] :=
  World.ownsRow_made w #[] 0 hb (by simp [maxLen]) (by simp)
end


theorem infoB : (Try.prog.info? 5).map (fun i => (i.zero, i.size, i.bytes)) = some (some (.int .u8 0), 1, 1) := by kernel_rfl

set_option maxRecDepth 100000 in
/-- append of one byte to a row of the call's own -/
theorem wpList_pushB {w : World} {ops : Array Oper} {rest : List Oper} {o : Oper} {a : Act} {Q : Exit → Act → World → Prop} (hgd : o.guard = none) (s x : Operand)
    (ho : o.op = .call { callee := .builtin .append, args := #[s, x], argTypes := #[73, 73] }) (B : Nat) (v : Value) (zs : List UInt8) (hs : a.eval s = v) (hown : OwB 5 w B v zs) (n : Nat) (hlen : zs.length = n)
    (g : Nat) (c : Nat) (z : UInt8) (hx : a.eval x = .slice (some ⟨g, 0, none⟩) 1 c) (hg : w.cell? ⟨g, 0, none⟩ = some (.int .u8 z.toNat))
    (hn : n < 1073741824) (hB : B ≤ w.heap.size) (H : Nat) (hH : w.heap.size = H)
    (h : ∀ g' cap w', OwB 5 w' B (.slice (some ⟨g', 0, none⟩) (n + 1) cap) (zs ++ [z]) → w.grownBy w' v.ownBlock → (v.ownBlock = some g' ∨ g' = H) → g' < w'.heap.size →
      wpList Try.prog ops Q rest (a.put o.dst (.slice (some ⟨g', 0, none⟩) (n + 1) cap)) w') : wpList Try.prog ops Q (o :: rest) a w := by
  subst hlen
  obtain ⟨i, hi, hz0, hz1, hz2⟩ := info_parts infoB
  refine wpList_append_lies w hgd s x 73 ho B 5 i (.int .u8 0) 1 1 Try.underlying73 hi hz0 hz1 hz2 rfl (by decide) v zs.length (cB zs) hs hown ⟨g, 0, none⟩ 1 c [.int .u8 z.toNat] hx rfl ?_ ?_ (by decide) (by unfold maxLen; omega) (by omega) hB H hH ?_
  · intro j u hj
    match j, hj with
    | 0, hj => simp at hj; subst hj; simpa [Addr.add] using hg
  · intro u hu; simp at hu; subst hu; rfl
  · intro g' cap w' h1 h2 h3 h4
    exact h g' cap w' (by unfold OwB; simpa [cB] using h1) h2 h3 h4

/-- the conversion to a text -/
theorem textOf {w : World} {B : Nat} {A : Option Addr} {zs : List UInt8} {n c : Nat} (hr : RdB w B A zs) (hn : zs.length = n) (hpos : 0 < n) :
    (convert 73 9 (.slice A n c)).run Try.prog w = .ok (.string ⟨zs.toArray⟩) w := by
  subst hn
  obtain ⟨b, off, rfl, _, hc⟩ := hr.2 hpos
  refine run_convert_bytes_back w 73 9 5 ⟨b, off, none⟩ c zs Try.underlying73 Try.underlying5 Try.underlying9 fun j hj => ?_
  have := hc j (.int .u8 (zs[j].toNat : Int)) (by simp [cB, hj])
  unfold Addr.add
  split
  · rename_i h0; subst h0; simpa using this
  · exact this
end Go.Proofs.Ytfadakdalijjfaa
