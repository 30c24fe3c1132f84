/- What stands while a statement is walked: its arguments, the reference's result, the program's argument and result; ends of regions whose last call hands its value on; no conditions beyond those that each theorem states. -/
import Derived.Test.YtknknljkmkfmoaaN15
namespace Go.Proofs.Ytknknljkmkfmoaa
open Go.RowKit
set_option maxRecDepth 100000

/-! ### regions -/
section
variable {ops : Array Oper}
/-- each operation behind i waits for one from i on -/
def chainOk (ops : Array Oper) (i : Nat) : Bool :=
  (List.range ops.size).all fun j => !decide (i < j) || match ops[j]? with
    | none => true
    | some o => o.after.any fun e => Region.binds .any e && (decide (i ≤ e.on) && decide (e.on < j))
theorem chain_down {d : Nat → Bool} (hcl : Closed ops d) {i : Nat} (hc : chainOk ops i = true) (hd : d i = false) : ∀ (j : Nat) (o : Oper), i ≤ j → ops[j]? = some o → d j = false := by
  intro j
  induction j using Nat.strongRecOn with
  | _ j ih =>
    intro o hij ho
    by_cases e : j = i
    · subst e; exact hd
    · have hj : j < ops.size := (Array.getElem?_eq_some_iff.1 ho).1
      have h1 := List.all_eq_true.1 hc j (List.mem_range.2 hj)
      rw [Bool.or_eq_true] at h1
      rcases h1 with h1 | h1
      · simp at h1; omega
      · rw [ho] at h1
        simp only at h1
        obtain ⟨q, hq, hb⟩ := Array.any_eq_true.1 h1
        simp only [Bool.and_eq_true, decide_eq_true_eq] at hb
        have hk : o.after[q].on < ops.size := by omega
        have hdk := ih _ hb.2.2 ops[o.after[q].on] hb.2.1 (by rw [Array.getElem?_eq_getElem hk])
        cases hdj : d j with
        | false => rfl
        | true =>
          rw [hcl j o ho hdj _ (Array.getElem_mem hq) hb.1] at hdk
          cases hdk
/-- the value lands in the slots of operations from i on -/
theorem FlagPost.chain {γ : Type} {F : γ → Array Value} {D : List Deferred} {S : (Nat → Bool) → γ → World → Prop} {i : Nat} {o : Oper} {d : Nat → Bool} {c : γ} {a' : Act} {w' : World} (c' : γ) (L : List (Nat × Value)) (t : Nat)
    (hd : a'.defers = D) (ho : o.dst = some t) (hv : a'.tmps.getD t undef = (F c').getD t undef) (hS : S (fun j => if j = i then true else d j) c' w') (hF : F c' = setAll (F c) L)
    (hi : ops[i]? = some o) (hcl : Closed ops d) (hdi : d i = false) (hc : chainOk ops i = true)
    (hL : (L.map (·.1)).all (fun p => (List.range ops.size).any fun j => decide (i ≤ j) && (match ops[j]? with | some q => q.dst == some p | none => false)) = true) : FlagPost ops F D S i o d c a' w' := by
  refine ⟨c', L, ⟨hd, fun t' ht => by rw [ho] at ht; injection ht with ht; subst ht; exact hv⟩, hS, hF, fun p hp => ?_⟩
  have h1 := List.all_eq_true.1 hL p.1 (List.mem_map_of_mem hp)
  obtain ⟨j, hj, hb⟩ := List.any_eq_true.1 h1
  simp only [Bool.and_eq_true, decide_eq_true_eq] at hb
  obtain ⟨hij, hb⟩ := hb
  cases hq : ops[j]? with
  | none => rw [hq] at hb; cases hb
  | some q =>
    rw [hq] at hb
    simp only [beq_iff_eq] at hb
    by_cases e : j = i
    · left
      subst e
      rw [hi] at hq
      injection hq with hq
      rw [hq]; exact hb
    · right
      exact ⟨j, q, hq, hb, e, chain_down hcl hc hdi j q hij hq⟩
end

/-! ### a region that copies the list and calls -/
structure GC where
  v : Value
  r : Value
structure SC (w1 : World) (ms : List M) (R : Value → World → Prop) (b1 b4 : Bool) (c : GC) (w : World) : Prop where
  bel : Below w1.heap.size w1 w
  a : b1 = true → b4 = false → OwM 31 w w1.heap.size c.v ms
  r : b4 = true → R c.r w
section
variable {w1 w w' : World} {ms : List M} {R : Value → World → Prop} {b1 b4 : Bool} {c : GC}
theorem SC.start (hb : Below w1.heap.size w1 w) : SC w1 ms R false false c w := ⟨hb, fun h => (by cases h), fun h => (by cases h)⟩
theorem SC.below (hR : ∀ r w w', R r w → Below w.heap.size w w' → R r w') (h : SC w1 ms R b1 b4 c w) (hb : Below w.heap.size w w') : SC w1 ms R b1 b4 c w' :=
  ⟨h.bel.trans (hb.mono h.bel.size), fun e1 e2 => (h.a e1 e2).below hb (Nat.le_refl _), fun e => hR _ _ _ (h.r e) hb⟩
theorem SC.doA (h : SC w1 ms R false false c w) {v : Value} (ho : OwM 31 w' w.heap.size v ms) (hb : Below w.heap.size w w') : SC w1 ms R true false { c with v := v } w' :=
  ⟨h.bel.trans (hb.mono h.bel.size), fun _ _ => ho.mono h.bel.size, fun e => (by cases e)⟩
theorem SC.doC (h : SC w1 ms R true false c w) {r : Value} (hr : R r w') (hb : Below w.heap.size w w') : SC w1 ms R true true { c with r := r } w' :=
  ⟨h.bel.trans (hb.mono h.bel.size), fun _ e => (by cases e), fun _ => hr⟩
theorem SC.fin (h : SC w1 ms R true true c w) : R c.r w ∧ Below w1.heap.size w1 w := ⟨h.r rfl, h.bel⟩
end
/-- a result to be read -/
def RR6 (res : List M) (r : Value) (w : World) : Prop := ∃ A c, r = .slice A res.length c ∧ RdM w w.heap.size A res
def RR1 (res : List Int) (r : Value) (w : World) : Prop := ∃ A c, r = .slice A res.length c ∧ RdI w w.heap.size A res
theorem RR6.below {res : List M} (r : Value) (w w' : World) (h : RR6 res r w) (hb : Below w.heap.size w w') : RR6 res r w' := by
  obtain ⟨A, c, e, hr⟩ := h
  exact ⟨A, c, e, Rd.more (Rd.below hr hb) hb.size⟩
theorem RR1.below {res : List Int} (r : Value) (w w' : World) (h : RR1 res r w) (hb : Below w.heap.size w w') : RR1 res r w' := by
  obtain ⟨A, c, e, hr⟩ := h
  exact ⟨A, c, e, Rd.more (Rd.below hr hb) hb.size⟩
theorem RetS.out {res : List M} {code : Int} {w w' : World} {e : Ending} (h : RetS res code w e w') : ∃ r, e = .returned (.tuple #[r, I code]) ∧ RR6 res r w' ∧ Below w.heap.size w w' := by
  obtain ⟨A, c, rfl, hr, hb⟩ := h
  exact ⟨_, rfl, ⟨A, c, rfl, hr⟩, hb⟩
theorem RetSI.out {res : List Int} {code : Int} {w w' : World} {e : Ending} (h : RetSI res code w e w') : ∃ r, e = .returned (.tuple #[r, I code]) ∧ RR1 res r w' ∧ Below w.heap.size w w' := by
  obtain ⟨A, c, rfl, hr, hb⟩ := h
  exact ⟨_, rfl, ⟨A, c, rfl, hr⟩, hb⟩

theorem OwM.rdA {e : TypeId} {w : World} {B n c : Nat} {A : Option Addr} {ms : List M} (h : OwM e w B (.slice A n c) ms) : RdM w w.heap.size A ms := by
  obtain ⟨A', c', e, hr⟩ := h.form
  injection e with e1 _ _
  subst e1
  exact hr
theorem OwI.rdA {e : TypeId} {w : World} {B n c : Nat} {A : Option Addr} {zs : List Int} (h : OwI e w B (.slice A n c) zs) : RdI w w.heap.size A zs := by
  obtain ⟨A', c', e, hr⟩ := h.form
  injection e with e1 _ _
  subst e1
  exact hr

/-! ### the state of a statement's walk -/
theorem ownsRow_keep {w w' : World} {B : Nat} {e : TypeId} {k : Nat} {v : Value} {n : Nat} {cs : List Value} (h : w.ownsRow B e k v n cs) (hk : ∀ g, v.ownBlock = some g → w'.heap[g]? = w.heap[g]?) : w'.ownsRow B e k v n cs := by
  refine ⟨h.1, ?_⟩
  rcases h.2 with hn | ⟨g, cap, cur, rfl, hg, hh, rest⟩
  · exact .inl hn
  · exact .inr ⟨g, cap, cur, rfl, hg, by rw [hk g rfl]; exact hh, rest⟩
structure LS (w : World) (A : Option Addr) (ms : List M) (bxs : List (Nat × M)) (k0 B0 : Nat) (A0 : Option Addr) (n0 : Nat) (cs0 : List Value) (bX : Nat) (vX : Value) (xs : List M) (bG : Nat) (eG : TypeId) (kG : Nat) (vG : Value) (nG : Nat) (csG : List Value) (wc : World) : Prop where
  inp : RdM w w.heap.size A ms
  bel : Below w.heap.size w wc
  box : ∀ p ∈ bxs, Six wc p.1 p.2 ∧ w.heap.size ≤ p.1 ∧ p.1 < B0
  r0 : Rd k0 wc B0 A0 n0 cs0
  ox : OwM 31 wc bX vX xs
  og : wc.ownsRow bG eG kG vG nG csG
  h0 : w.heap.size ≤ B0
  h1 : B0 ≤ bX
  h2 : ∀ g, vX.ownBlock = some g → g < bG
  h3 : bX ≤ bG
  h4 : bG ≤ wc.heap.size
section
variable {w wc w' : World} {A : Option Addr} {ms : List M} {bxs : List (Nat × M)} {k0 B0 : Nat} {A0 : Option Addr} {n0 : Nat} {cs0 : List Value} {bX : Nat} {vX : Value} {xs : List M} {bG : Nat} {eG : TypeId} {kG : Nat} {vG : Value} {nG : Nat} {csG : List Value}
theorem LS.start (hi : RdM w w.heap.size A ms) (hb : Below w.heap.size w wc) (hx : ∀ p ∈ bxs, Six wc p.1 p.2 ∧ w.heap.size ≤ p.1) : LS w A ms bxs 6 wc.heap.size none 0 [] wc.heap.size (.slice none 0 0) [] wc.heap.size 31 6 (.slice none 0 0) 0 [] wc where
  inp := hi
  bel := hb
  box := fun p hp => ⟨(hx p hp).1, (hx p hp).2, (hx p hp).1.lt⟩
  r0 := Rd.nil_
  ox := OwM.nil_
  og := World.ownsRow_nil wc wc.heap.size 31 6
  h0 := hb.size
  h1 := Nat.le_refl _
  h2 := fun g hg => by cases hg
  h3 := Nat.le_refl _
  h4 := Nat.le_refl _
theorem LS.below (h : LS w A ms bxs k0 B0 A0 n0 cs0 bX vX xs bG eG kG vG nG csG wc) (hb : Below wc.heap.size wc w') : LS w A ms bxs k0 B0 A0 n0 cs0 bX vX xs bG eG kG vG nG csG w' where
  inp := h.inp
  bel := h.bel.trans (hb.mono h.bel.size)
  box := fun p hp => ⟨(h.box p hp).1.below hb (h.box p hp).1.lt, (h.box p hp).2⟩
  r0 := h.r0.below' hb (Nat.le_trans h.h1 (Nat.le_trans h.h3 h.h4))
  ox := h.ox.below hb (Nat.le_refl _)
  og := ownsRow_keep h.og fun g hg => hb.block g (World.ownsRow.lt h.og g hg).2
  h0 := h.h0
  h1 := h.h1
  h2 := h.h2
  h3 := h.h3
  h4 := Nat.le_trans h.h4 hb.size
theorem LS.setR (h : LS w A ms bxs k0 B0 A0 n0 cs0 bX vX xs bG eG kG vG nG csG wc) {k : Nat} {A' : Option Addr} {n : Nat} {cs : List Value} (hr : Rd k wc wc.heap.size A' n cs) : LS w A ms bxs k wc.heap.size A' n cs wc.heap.size (.slice none 0 0) [] wc.heap.size 31 6 (.slice none 0 0) 0 [] wc where
  inp := h.inp
  bel := h.bel
  box := fun p hp => ⟨(h.box p hp).1, (h.box p hp).2.1, (h.box p hp).1.lt⟩
  r0 := hr
  ox := OwM.nil_
  og := World.ownsRow_nil wc wc.heap.size 31 6
  h0 := h.bel.size
  h1 := Nat.le_refl _
  h2 := fun g hg => by cases hg
  h3 := Nat.le_refl _
  h4 := Nat.le_refl _
theorem LS.setX (h : LS w A ms bxs k0 B0 A0 n0 cs0 bX vX xs bG eG kG vG nG csG wc) (hb : Below wc.heap.size wc w') {v : Value} {ys : List M} (ho : OwM 31 w' wc.heap.size v ys) : LS w A ms bxs k0 B0 A0 n0 cs0 wc.heap.size v ys w'.heap.size 31 6 (.slice none 0 0) 0 [] w' :=
  have h' := h.below hb
  { inp := h'.inp, bel := h'.bel, box := h'.box, r0 := h'.r0, ox := ho, og := World.ownsRow_nil w' w'.heap.size 31 6, h0 := h'.h0
    h1 := Nat.le_trans h.h1 (Nat.le_trans h.h3 h.h4)
    h2 := fun g hg => (ho.lt g hg).2
    h3 := hb.size
    h4 := Nat.le_refl _ }
theorem LS.setG (h : LS w A ms bxs k0 B0 A0 n0 cs0 bX vX xs bG eG kG vG nG csG wc) (hb : Below wc.heap.size wc w') {e : TypeId} {k : Nat} {v : Value} {n : Nat} {cs : List Value} (ho : w'.ownsRow wc.heap.size e k v n cs) : LS w A ms bxs k0 B0 A0 n0 cs0 bX vX xs wc.heap.size e k v n cs w' :=
  have h' := h.below hb
  { inp := h'.inp, bel := h'.bel, box := h'.box, r0 := h'.r0, ox := h'.ox, og := ho, h0 := h'.h0, h1 := h'.h1
    h2 := fun g hg => Nat.lt_of_lt_of_le (h.h2 g hg) h.h4
    h3 := Nat.le_trans h.h3 h.h4
    h4 := hb.size }
theorem LS.markX (h : LS w A ms bxs k0 B0 A0 n0 cs0 bX vX xs bG eG kG vG nG csG wc) {ys : List M} (ho : OwM 31 w' bX vX ys) (hg : wc.grownBy w' vX.ownBlock) : LS w A ms bxs k0 B0 A0 n0 cs0 bX vX ys bG eG kG vG nG csG w' where
  inp := h.inp
  bel := h.ox.bel h.bel hg (Nat.le_trans h.h0 h.h1) h.bel.size
  box := fun p hp => ⟨(h.box p hp).1.grown hg fun e => by have := (h.ox.lt _ e.symm).1; have := (h.box p hp).2.2; have := h.h1; omega, (h.box p hp).2⟩
  r0 := h.r0.grown hg (Nat.le_trans h.h1 (Nat.le_trans h.h3 h.h4)) fun g e => Nat.le_trans h.h1 (h.ox.lt g e).1
  ox := ho
  og := ownsRow_keep h.og fun g hv => hg.block g (World.ownsRow.lt h.og g hv).2 fun e => by have := (World.ownsRow.lt h.og g hv).1; have := h.h2 g e.symm; omega
  h0 := h.h0
  h1 := h.h1
  h2 := h.h2
  h3 := h.h3
  h4 := Nat.le_trans h.h4 hg.size
theorem LS.markG (h : LS w A ms bxs k0 B0 A0 n0 cs0 bX vX xs bG eG kG vG nG csG wc) {cs : List Value} (ho : w'.ownsRow bG eG kG vG nG cs) (hg : wc.grownBy w' vG.ownBlock) : LS w A ms bxs k0 B0 A0 n0 cs0 bX vX xs bG eG kG vG nG cs w' where
  inp := h.inp
  bel := h.bel.grown hg h.bel.size fun k hk => by have := (World.ownsRow.lt h.og k hk).1; have := h.h0; have := h.h1; have := h.h3; omega
  box := fun p hp => ⟨(h.box p hp).1.grown hg fun e => by have := (World.ownsRow.lt h.og _ e.symm).1; have := (h.box p hp).2.2; have := h.h1; have := h.h3; omega, (h.box p hp).2⟩
  r0 := h.r0.grown hg (Nat.le_trans h.h1 (Nat.le_trans h.h3 h.h4)) fun g e => by have := (World.ownsRow.lt h.og g e).1; have := h.h1; have := h.h3; omega
  ox := h.ox.grown hg fun g hv e => by have := (World.ownsRow.lt h.og g e).1; have := h.h2 g hv; omega
  og := ho
  h0 := h.h0
  h1 := h.h1
  h2 := h.h2
  h3 := h.h3
  h4 := Nat.le_trans h.h4 hg.size
theorem LS.list (h : LS w A ms bxs k0 B0 A0 n0 cs0 bX vX xs bG eG kG vG nG csG wc) : RdM wc wc.heap.size A ms := Rd.more (Rd.below h.inp h.bel) h.bel.size
theorem LS.res (h : LS w A ms bxs k0 B0 A0 n0 cs0 bX vX xs bG eG kG vG nG csG wc) : Rd k0 wc wc.heap.size A0 n0 cs0 := Rd.more h.r0 (Nat.le_trans h.h1 (Nat.le_trans h.h3 h.h4))
end
end Go.Proofs.Ytknknljkmkfmoaa
