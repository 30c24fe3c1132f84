/- Where a map is put into an ascending list; append of a list of maps in a region of any order. -/
import Derived.Test.YtknknljkmkfmoaaN9
namespace Go.Proofs.Ytknknljkmkfmoaa
open Go.RowKit
set_option maxRecDepth 100000

theorem insM_cut {E : List M} {f : M} {a : Nat} (h : Cut E f a a) (hA : Asc E) (hf : f ∉ E) : insM f E = E.take a ++ [f] ++ E.drop a := by
  have hge : ∀ z ∈ E.drop a, lessM f z = true := fun z hz => by
    obtain ⟨j, hj, rfl⟩ := List.getElem_of_mem hz
    rw [List.length_drop] at hj
    rw [List.getElem_drop]
    have h2 := h.hi (a + j) (by omega) (by omega)
    rw [gm_eq (by omega)] at h2
    exact (lessM_tot (fun e => hf (by rw [e]; exact List.getElem_mem _))).resolve_right (by rw [h2]; simp)
  have hlt : ∀ z ∈ E.take a, lessM z f = true := fun z hz => by
    obtain ⟨j, hj, rfl⟩ := List.getElem_of_mem hz
    rw [List.length_take] at hj
    rw [List.getElem_take]
    have h2 := h.lo j (by omega)
    rwa [gm_eq (by omega)] at h2
  refine asc_ext (insM_asc hA) ?_ fun z => ?_
  · rw [List.append_assoc]
    refine List.pairwise_append.2 ⟨hA.sublist (List.take_sublist _ _), List.pairwise_cons.2 ⟨hge, hA.sublist (List.drop_sublist _ _)⟩, fun x hx y hy => ?_⟩
    rcases List.mem_cons.1 hy with rfl | hy
    · exact hlt x hx
    · exact lessM_trans (hlt x hx) (hge y hy)
  · rw [insM_mem]
    have : z ∈ E ↔ z ∈ E.take a ∨ z ∈ E.drop a := by rw [← List.mem_append, List.take_append_drop]
    rw [this, List.mem_append, List.mem_append, List.mem_singleton]
    constructor
    · rintro (h | h | h)
      · exact .inl (.inr h)
      · exact .inl (.inl h)
      · exact .inr h
    · rintro ((h | h) | h)
      · exact .inr (.inl h)
      · exact .inl h
      · exact .inr (.inr h)
theorem insM_in {E : List M} {f : M} (hA : Asc E) (hf : f ∈ E) : insM f E = E :=
  asc_ext (insM_asc hA) hA fun z => by rw [insM_mem]; exact ⟨fun h => h.elim (fun e => e ▸ hf) id, .inr⟩

/-- append of a list of maps to a row of one's own, as one operation -/
theorem wp_catM {w : World} {o : Oper} {a : Act} {K : Act → World → Prop} {Q : Exit → Act → World → Prop} (s x : Operand)
    (ho : o.op = .call { callee := .builtin .append, args := #[s, x], argTypes := #[29, 29] }) (B : Nat) (v : Value) (ms xs : List M) (hs : a.eval s = v) (hown : OwM 31 w B v ms)
    (ad : Addr) (n c : Nat) (hx : a.eval x = .slice (some ad) n c) (hy : RdM w w.heap.size (some ad) xs) (hn : xs.length = n)
    (hb : ms.length + n < 1073741824) (hB : B ≤ w.heap.size)
    (h : ∀ v' w', OwM 31 w' B v' (ms ++ xs) → w.grownBy w' v.ownBlock → K (a.put o.dst v') w') : o.wp Try.prog a w K Q := by
  obtain ⟨i, hi, hz0, hz1, hz2⟩ := info_parts infoM
  subst hn
  refine wp_append_own w s x 29 ho B 31 i (.agg (mc M0)) 6 48 Try.underlying29 hi hz0 hz1 hz2 rfl (by decide) v ms.length (mcs ms) hs hown ad xs.length c (mcs xs) hx (mcs_length _) ?_ mcs_one (by unfold maxLen; omega) (by omega) hB ?_
  · intro j u hj
    have hpos : 0 < xs.length := by
      rcases Nat.eq_zero_or_pos xs.length with h0 | h0
      · rw [List.eq_nil_of_length_eq_zero h0] at hj; simp [mcs] at hj
      · exact h0
    obtain ⟨b', off', e, _, hc⟩ := hy.2 hpos
    injection e with e
    subst e
    have := hc j u hj
    unfold Addr.add
    split
    · rename_i h0; subst h0; simpa using this
    · exact this
  · intro v' w' h1 h2 _
    refine h v' w' ?_ h2
    unfold OwM
    rw [mcs_app, List.length_append]
    exact h1

theorem RdM.take {w : World} {B : Nat} {A : Option Addr} {ms : List M} (h : RdM w B A ms) (a : Nat) : RdM w B A (ms.take a) := by
  refine ⟨mcs_length _, fun hpos => ?_⟩
  have hp : 0 < ms.length := by rw [List.length_take] at hpos; omega
  obtain ⟨b, off, e, hb, hc⟩ := h.2 hp
  refine ⟨b, off, e, hb, fun j u hj => hc j u ?_⟩
  have e2 : mcs ms = mcs (ms.take a) ++ mcs (ms.drop a) := by rw [← mcs_app, List.take_append_drop]
  rw [e2, List.getElem?_append_left ((List.getElem?_eq_some_iff.1 hj).1)]
  exact hj
theorem RdM.drop {w : World} {B b off : Nat} {ms : List M} (h : RdM w B (some ⟨b, off, none⟩) ms) {a : Nat} (ha : a ≤ ms.length) : RdM w B (some ⟨b, off + a * 6, none⟩) (ms.drop a) := by
  refine ⟨mcs_length _, fun hpos => ?_⟩
  have hp : 0 < ms.length := by rw [List.length_drop] at hpos; omega
  obtain ⟨b', off', e, hb, hc⟩ := h.2 hp
  injection e with e
  injection e with e1 e2 _
  subst e1 e2
  refine ⟨_, _, rfl, hb, fun j u hj => ?_⟩
  have e2 : mcs ms = mcs (ms.take a) ++ mcs (ms.drop a) := by rw [← mcs_app, List.take_append_drop]
  have hl : (mcs (ms.take a)).length = a * 6 := by rw [mcs_length, List.length_take]; congr 1; omega
  rw [Nat.add_assoc]
  refine hc (a * 6 + j) u ?_
  rw [e2, List.getElem?_append_right (by omega), hl, Nat.add_sub_cancel_left]
  exact hj

theorem OwM.capOf {e : TypeId} {w : World} {B : Nat} {v : Value} {ms : List M} (h : OwM e w B v ms) (hpos : 0 < ms.length) : ∃ g c, v = .slice (some ⟨g, 0, none⟩) ms.length c ∧ ms.length ≤ c := by
  rcases h.2 with ⟨_, h0⟩ | ⟨g, cap, cur, rfl, _, _, hc, _⟩
  · omega
  · exact ⟨g, cap, rfl, hc⟩

/-- what stands while a map is put into a list: the empty row (made, filled up), the row of the map -/
structure G9 where
  q0 : Nat
  v4 : Value
  q6 : Nat
  v7 : Value
structure S9 (w1 : World) (ms : List M) (f : M) (qb : Nat) (b0 b4 b6 b7 : Bool) (c : G9) (w : World) : Prop where
  bel : Below w1.heap.size w1 w
  s0 : b0 = true → b4 = false → OwM 31 w w1.heap.size (.slice (some ⟨c.q0, 0, none⟩) 0 0) []
  s4 : b4 = true → b7 = false → OwM 31 w w1.heap.size c.v4 ms
  s6 : b6 = true → b7 = false → Six w c.q6 f ∧ w1.heap.size ≤ c.q6 ∧ (b0 = true → b4 = false → c.q6 ≠ c.q0)
  s7 : b7 = true → OwM 31 w w1.heap.size c.v7 (ms ++ [f])
section
variable {w1 w w' : World} {ms : List M} {f : M} {qb : Nat} {b0 b4 b6 b7 : Bool} {c : G9}
theorem S9.start (w1 : World) (ms : List M) (f : M) (qb : Nat) (c : G9) : S9 w1 ms f qb false false false false c w1 :=
  ⟨Below.refl _ _, fun h => (by cases h), fun h => (by cases h), fun h => (by cases h), fun h => (by cases h)⟩
theorem S9.below (h : S9 w1 ms f qb b0 b4 b6 b7 c w) (hb : Below w.heap.size w w') : S9 w1 ms f qb b0 b4 b6 b7 c w' where
  bel := h.bel.trans (hb.mono h.bel.size)
  s0 := fun e1 e2 => (h.s0 e1 e2).below hb (Nat.le_refl _)
  s4 := fun e1 e2 => (h.s4 e1 e2).below hb (Nat.le_refl _)
  s6 := fun e1 e2 => ⟨(h.s6 e1 e2).1.below hb (h.s6 e1 e2).1.lt, (h.s6 e1 e2).2⟩
  s7 := fun e => (h.s7 e).below hb (Nat.le_refl _)
theorem S9.do0 (h : S9 w1 ms f qb false false b6 false c w) : S9 w1 ms f qb true false b6 false { c with q0 := w.heap.size } (w.alloc (.cells #[] 31)) :=
  have h' := h.below ((Below.refl w.heap.size w).alloc (Nat.le_refl _) (.cells #[] 31))
  { h' with s0 := fun _ _ => OwM.made h.bel.size, s4 := h'.s4, s6 := fun e1 e2 => ⟨(h'.s6 e1 e2).1, (h'.s6 e1 e2).2.1, fun _ _ => by have := (h.s6 e1 e2).1.lt; show c.q6 ≠ w.heap.size; omega⟩, s7 := h'.s7 }
theorem S9.do6 (h : S9 w1 ms f qb b0 b4 false false c w) : S9 w1 ms f qb b0 b4 true false { c with q6 := w.heap.size } (w.alloc (.cells (mc f) 31)) :=
  have h' := h.below ((Below.refl w.heap.size w).alloc (Nat.le_refl _) (.cells (mc f) 31))
  { h' with s0 := h'.s0, s4 := h'.s4, s6 := fun _ _ => ⟨Blk.six (Blk.new w _ _), h.bel.size, fun e1 e2 => (by have := ((h.s0 e1 e2).lt c.q0 rfl).2; show w.heap.size ≠ c.q0; omega)⟩, s7 := h'.s7 }
theorem S9.do4 (h : S9 w1 ms f qb true false b6 false c w) {v : Value} (ho : OwM 31 w' w1.heap.size v ms) (hg : w.grownBy w' (some c.q0)) : S9 w1 ms f qb true true b6 false { c with v4 := v } w' where
  bel := (h.s0 rfl rfl).bel h.bel hg (Nat.le_refl _) h.bel.size
  s0 := fun _ e => by cases e
  s4 := fun _ _ => ho
  s6 := fun e1 e2 => by
    obtain ⟨x1, x2, x3⟩ := h.s6 e1 e2
    exact ⟨x1.grown hg fun e => (by injection e with e; exact x3 rfl rfl e), x2, fun _ e => (by cases e)⟩
  s7 := fun e => by cases e
theorem S9.do7 (h : S9 w1 ms f qb true true true false c w) {v : Value} (ho : OwM 31 w' w1.heap.size v (ms ++ [f])) (hg : w.grownBy w' c.v4.ownBlock) : S9 w1 ms f qb true true true true { c with v7 := v } w' where
  bel := (h.s4 rfl rfl).bel h.bel hg (Nat.le_refl _) h.bel.size
  s0 := fun _ e => by cases e
  s4 := fun _ e => by cases e
  s6 := fun _ e => by cases e
  s7 := fun _ => ho
end
end Go.Proofs.Ytknknljkmkfmoaa
