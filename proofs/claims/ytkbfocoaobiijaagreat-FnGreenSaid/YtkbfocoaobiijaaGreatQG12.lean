/- Contracts of drawn generators with elements; no conditions beyond those that the theorems state. Contract of drawn generators with two elements; no conditions beyond those that the theorem states. Contracts of the draws of generators with elements; no conditions beyond those that the theorems state. Contracts of the search for an idempotent in a list, and of GroupWith on both sides; the lists are as each theorem states. Contracts of the closures that ask whether an element is like a given one; the monoid has at most 300 elements. -/
import Derived.Test.YtkbfocoaobiijaaGreatQG10
import Derived.Test.YtkbfocoaobiijaaGreatQG11
import Derived.Deep.DeepCutAuto
import Derived.Deep.CutBlock
set_option linter.unusedSimpArgs false
set_option linter.unusedVariables false
namespace Go.Proofs.YtkbfocoaobiijaaGreat
open Go.RowKit
set_option maxRecDepth 100000
set_option linter.unusedSimpArgs false
set_option linter.unusedVariables false
theorem RdM.by_s {w w' : World} {s : Nat} {A : Option Addr} {n c : Nat} {zs : List Int} {L : Option Addr} {ms : List M} (h : RdM w w.heap.size L ms) (hS : Src w s A n c zs) (hg : w.grownBy w' (some s)) : RdM w' w'.heap.size L ms := by
  refine ⟨h.1, fun hn => ?_⟩
  obtain ⟨b, off, e, hb, hc⟩ := h.2 hn
  have hne : b ≠ s := by
    rintro rfl
    obtain ⟨a, x, _, _, hbl⟩ := hS.blk
    have h5 : 5 < (mcs ms).length := by rw [mcs_length]; omega
    have := hc 5 _ (List.getElem?_eq_getElem h5)
    rw [hbl.cell, Array.getElem?_eq_none (by simp)] at this
    cases this
  exact ⟨b, off, e, Nat.lt_of_lt_of_le hb hg.size, fun j u hu => (World.cell?_of_block (hg.block b hb (fun e => hne (by injection e with e)))).trans (hc j u hu)⟩
theorem RdM.far6 {w : World} {L : Option Addr} {ms : List M} (h : RdM w w.heap.size L ms) {q : Nat} (hq : ∀ a, L = some a → q < a.block) (m : M) : RdM (st6 w q m) (st6 w q m).heap.size L ms := by
  refine ⟨h.1, fun hn => ?_⟩
  obtain ⟨b, off, e, hb, hc⟩ := h.2 hn
  have hne : b ≠ q := by have := hq _ e; simp only at this; omega
  have hs : (st6 w q m).heap.size = w.heap.size := by simp [st6, World.setCell]
  refine ⟨b, off, e, by rw [hs]; exact hb, fun j u hu => ?_⟩
  have f := fun (w : World) (o : Nat) (v : Value) => World.cell?_of_block (w := w) (w' := w.setCell ⟨q, o, none⟩ v) (a := ⟨b, off + j, none⟩) (Below.heap_setCell w ⟨q, o, none⟩ v b hne)
  exact ((f _ _ _).trans ((f _ _ _).trans ((f _ _ _).trans ((f _ _ _).trans ((f _ _ _).trans (f _ _ _)))))).trans (hc j u hu)
structure WS (w0 : World) (s : Nat) (A : Option Addr) (n c : Nat) (zs : List Int) (v5 : Value) (ms : List M) (q6 q7 : Nat) (f g : M) (w : World) : Prop where
  src : Src w s A n c zs
  gr : w0.grownBy w (some s)
  low : s < w0.heap.size
  lst : OwM 31 w (w0.heap.size + 2) v5 ms
  far : ∀ b, v5.ownBlock = some b → b < q6 ∧ b < q7
  c3 : Blk w w0.heap.size 31 (mc M0)
  c4 : Blk w (w0.heap.size + 1) 31 (mc M0)
  c6 : Blk w q6 31 (mc f)
  c7 : Blk w q7 31 (mc g)
  h6 : w0.heap.size + 2 ≤ q6
  h7 : w0.heap.size + 2 ≤ q7
  ne : q6 ≠ q7
section
variable {w0 w w' : World} {s : Nat} {A : Option Addr} {n c : Nat} {zs : List Int} {v5 : Value} {ms : List M} {q6 q7 : Nat} {f g : M}
theorem OwM.st6f {B : Nat} {v : Value} (h : OwM 31 w B v ms) {q : Nat} (hq : v.ownBlock ≠ some q) (m : M) : OwM 31 (Go.Proofs.YtkbfocoaobiijaaGreat.st6 w q m) B v ms :=
  (((((h.far (p := ⟨q, 0, none⟩) hq _).far (p := ⟨q, 1, none⟩) hq _).far (p := ⟨q, 2, none⟩) hq _).far (p := ⟨q, 3, none⟩) hq _).far (p := ⟨q, 4, none⟩) hq _).far (p := ⟨q, 5, none⟩) hq _
theorem Blk.st6f {b : Nat} {t : TypeId} {cs : Array Value} (h : Blk w b t cs) {q : Nat} (hq : b ≠ q) (m : M) : Blk (Go.Proofs.YtkbfocoaobiijaaGreat.st6 w q m) b t cs :=
  (((((h.far (p := ⟨q, 0, none⟩) hq _).far (p := ⟨q, 1, none⟩) hq _).far (p := ⟨q, 2, none⟩) hq _).far (p := ⟨q, 3, none⟩) hq _).far (p := ⟨q, 4, none⟩) hq _).far (p := ⟨q, 5, none⟩) hq _
theorem WS.next (h : WS w0 s A n c zs v5 ms q6 q7 f g w) (hs : Src w' s A n c zs) (hg : w.grownBy w' (some s)) : WS w0 s A n c zs v5 ms q6 q7 f g w' :=
  have hl := h.low
  have h6 := h.h6
  have h7 := h.h7
  ⟨hs, grown_trans h.gr hg, h.low, h.lst.by_s hg (by omega), h.far, h.c3.grown hg (fun e => by injection e with e; omega), h.c4.grown hg (fun e => by injection e with e; omega), h.c6.grown hg (fun e => by injection e with e; omega), h.c7.grown hg (fun e => by injection e with e; omega), h.h6, h.h7, h.ne⟩
theorem WS.below (h : WS w0 s A n c zs v5 ms q6 q7 f g w) (hb : Below w.heap.size w w') : WS w0 s A n c zs v5 ms q6 q7 f g w' := h.next (h.src.below hb) (grown_below hb _)
theorem WS.set6 (h : WS w0 s A n c zs v5 ms q6 q7 f g w) (m : M) : WS w0 s A n c zs v5 ms q6 q7 m g (st6 w q6 m) :=
  have hl := h.low
  have h6 := h.h6
  ⟨h.src.st6 (by omega) m, grown_st6 h.gr (by omega) m, h.low, h.lst.st6f (fun e => by have := (h.far _ e).1; omega) m, h.far, h.c3.st6f (by omega) m, h.c4.st6f (by omega) m, h.c6.st6 m, h.c7.st6f (Ne.symm h.ne) m, h.h6, h.h7, h.ne⟩
theorem WS.set7 (h : WS w0 s A n c zs v5 ms q6 q7 f g w) (m : M) : WS w0 s A n c zs v5 ms q6 q7 f m (st6 w q7 m) :=
  have hl := h.low
  have h7 := h.h7
  ⟨h.src.st6 (by omega) m, grown_st6 h.gr (by omega) m, h.low, h.lst.st6f (fun e => by have := (h.far _ e).2; omega) m, h.far, h.c3.st6f (by omega) m, h.c4.st6f (by omega) m, h.c6.st6f h.ne m, h.c7.st6 m, h.h6, h.h7, h.ne⟩
end
structure RG where
  q6 : Nat
  q7 : Nat
structure SR (w1 : World) (f g : M) (b9 b10 b11 b12 : Bool) (o : RG) (w : World) : Prop where
  bel : Below w1.heap.size w1 w
  c6 : b9 = true → Blk w o.q6 31 (mc (if b11 then f else M0)) ∧ w1.heap.size ≤ o.q6
  c7 : b10 = true → Blk w o.q7 31 (mc (if b12 then g else M0)) ∧ w1.heap.size ≤ o.q7
  ne : b9 = true → b10 = true → o.q6 ≠ o.q7
section
variable {w1 w w' : World} {f g : M} {b9 b10 b11 b12 : Bool} {o : RG}
theorem SR.do9 (h : SR w1 f g false b10 false b12 o w) : SR w1 f g true b10 false b12 { o with q6 := w.heap.size } (w.alloc (.cells (mc M0) 31)) :=
  ⟨h.bel.alloc h.bel.size _, fun _ => ⟨Blk.new w _ _, h.bel.size⟩, fun e => ⟨(h.c7 e).1.alloc _, (h.c7 e).2⟩, fun _ e => by have := (h.c7 e).1.lt; show w.heap.size ≠ o.q7; omega⟩
theorem SR.do10 (h : SR w1 f g b9 false b11 false o w) : SR w1 f g b9 true b11 false { o with q7 := w.heap.size } (w.alloc (.cells (mc M0) 31)) :=
  ⟨h.bel.alloc h.bel.size _, fun e => ⟨(h.c6 e).1.alloc _, (h.c6 e).2⟩, fun _ => ⟨Blk.new w _ _, h.bel.size⟩, fun e _ => by have := (h.c6 e).1.lt; show o.q6 ≠ w.heap.size; omega⟩
theorem SR.do11 (h : SR w1 f g true true false b12 o w) : SR w1 f g true true true b12 o (st6 w o.q6 f) :=
  ⟨below_st6 h.bel (h.c6 rfl).2 f, fun _ => ⟨(h.c6 rfl).1.st6 f, (h.c6 rfl).2⟩, fun e => ⟨(h.c7 e).1.st6f (Ne.symm (h.ne rfl rfl)) f, (h.c7 e).2⟩, h.ne⟩
theorem SR.do12 (h : SR w1 f g true true b11 false o w) : SR w1 f g true true b11 true o (st6 w o.q7 g) :=
  ⟨below_st6 h.bel (h.c7 rfl).2 g, fun e => ⟨(h.c6 e).1.st6f (h.ne rfl rfl) g, (h.c6 e).2⟩, fun _ => ⟨(h.c7 rfl).1.st6 g, (h.c7 rfl).2⟩, h.ne⟩
end
structure EG where
  A : Option Addr
  q : Nat
  c : Nat
  m3 : M
  m4 : M
structure SE (w0 : World) (s : Nat) (A : Option Addr) (n c : Nat) (zs : List Int) (v5 : Value) (ms : List M) (q6 q7 : Nat) (f g : M) (b2 b10 b11 : Bool) (o : EG) (w : World) : Prop where
  src : Src w s A n c zs
  gr : w0.grownBy w (some s)
  low : s < w0.heap.size
  lst : b2 = false → OwM 31 w (w0.heap.size + 2) v5 ms
  new : b2 = true → ∃ ls, OwM 31 w (w0.heap.size + 2) (.slice o.A o.q o.c) ls ∧ o.q = ls.length ∧ o.q ≤ 7
  c3 : Blk w w0.heap.size 31 (mc (if b10 then o.m3 else M0))
  c4 : Blk w (w0.heap.size + 1) 31 (mc (if b11 then o.m4 else M0))
  c6 : Blk w q6 31 (mc f)
  c7 : Blk w q7 31 (mc g)
  h6 : w0.heap.size + 2 ≤ q6
  h7 : w0.heap.size + 2 ≤ q7
section
variable {w0 w w' : World} {s : Nat} {A : Option Addr} {n c : Nat} {zs : List Int} {v5 : Value} {ms : List M} {q6 q7 : Nat} {f g : M} {b2 b10 b11 : Bool} {o : EG}
theorem SE.next (h : SE w0 s A n c zs v5 ms q6 q7 f g b2 b10 b11 o w) (hs : Src w' s A n c zs) (hg : w.grownBy w' (some s)) : SE w0 s A n c zs v5 ms q6 q7 f g b2 b10 b11 o w' :=
  have hl := h.low
  have h6 := h.h6
  have h7 := h.h7
  ⟨hs, grown_trans h.gr hg, h.low, fun e => (h.lst e).by_s hg (by omega), fun e => by obtain ⟨ls, h1, h2⟩ := h.new e; exact ⟨ls, h1.by_s hg (by omega), h2⟩,
    h.c3.grown hg (fun e => by injection e with e; omega), h.c4.grown hg (fun e => by injection e with e; omega), h.c6.grown hg (fun e => by injection e with e; omega), h.c7.grown hg (fun e => by injection e with e; omega), h.h6, h.h7⟩
theorem SE.do2 (h : SE w0 s A n c zs v5 ms q6 q7 f g false b10 b11 o w) (hs : Src w' s A n c zs) (hg : w.grownBy w' (some s)) {ls : List M} {A' : Option Addr} {q c' : Nat} (ho : OwM 31 w' (w0.heap.size + 2) (.slice A' q c') ls) (hq : q = ls.length) (h7 : q ≤ 7) :
    SE w0 s A n c zs v5 ms q6 q7 f g true b10 b11 { o with A := A', q := q, c := c' } w' := by
  have k := h.next hs hg
  exact ⟨k.src, k.gr, k.low, by simp, fun _ => ⟨ls, ho, hq, h7⟩, k.c3, k.c4, k.c6, k.c7, k.h6, k.h7⟩
theorem SE.do5 (h : SE w0 s A n c zs v5 ms q6 q7 f g b2 false b11 o w) (hs : Src w' s A n c zs) (hg : w.grownBy w' (some s)) (m : M) : SE w0 s A n c zs v5 ms q6 q7 f g b2 false b11 { o with m3 := m } w' := by
  have k := h.next hs hg
  exact ⟨k.src, k.gr, k.low, k.lst, k.new, k.c3, k.c4, k.c6, k.c7, k.h6, k.h7⟩
theorem SE.do8 (h : SE w0 s A n c zs v5 ms q6 q7 f g b2 b10 false o w) (hs : Src w' s A n c zs) (hg : w.grownBy w' (some s)) (m : M) : SE w0 s A n c zs v5 ms q6 q7 f g b2 b10 false { o with m4 := m } w' := by
  have k := h.next hs hg
  exact ⟨k.src, k.gr, k.low, k.lst, k.new, k.c3, k.c4, k.c6, k.c7, k.h6, k.h7⟩
theorem OwM.no {B : Nat} {v : Value} (h : OwM 31 w B v ms) {q : Nat} (hq : q < B) : v.ownBlock ≠ some q := fun e => by have := (h.lt _ e).1; omega
theorem SE.do10 (h : SE w0 s A n c zs v5 ms q6 q7 f g b2 false b11 o w) : SE w0 s A n c zs v5 ms q6 q7 f g b2 true b11 o (st6 w w0.heap.size o.m3) :=
  have h6 := h.h6
  have h7 := h.h7
  ⟨h.src.st6 h.low _, grown_st6 h.gr (Nat.le_refl _) _, h.low, fun e => (h.lst e).st6f ((h.lst e).no (by omega)) _, fun e => by obtain ⟨ls, h1, h2⟩ := h.new e; exact ⟨ls, h1.st6f (h1.no (by omega)) _, h2⟩,
    h.c3.st6 _, h.c4.st6f (by omega) _, h.c6.st6f (by omega) _, h.c7.st6f (by omega) _, h.h6, h.h7⟩
theorem SE.do11 (h : SE w0 s A n c zs v5 ms q6 q7 f g b2 b10 false o w) : SE w0 s A n c zs v5 ms q6 q7 f g b2 b10 true o (st6 w (w0.heap.size + 1) o.m4) :=
  have h6 := h.h6
  have h7 := h.h7
  have hl := h.low
  ⟨h.src.st6 (by omega) _, grown_st6 h.gr (by omega) _, h.low, fun e => (h.lst e).st6f ((h.lst e).no (by omega)) _, fun e => by obtain ⟨ls, h1, h2⟩ := h.new e; exact ⟨ls, h1.st6f (h1.no (by omega)) _, h2⟩,
    h.c3.st6f (by omega) _, h.c4.st6 _, h.c6.st6f (by omega) _, h.c7.st6f (by omega) _, h.h6, h.h7⟩
end
def RetW (s : Nat) (A : Option Addr) (n c : Nat) (zs : List Int) (w : World) (e : Ending) (w' : World) : Prop :=
  ∃ (A' : Option Addr) (q c' : Nat) (ls : List M) (f g : M), e = .returned (.tuple #[.slice A' q c', .agg (mc f), .agg (mc g)]) ∧ OwM 31 w' w.heap.size (.slice A' q c') ls ∧ q = ls.length ∧ q ≤ 7 ∧ Src w' s A n c zs ∧ w.grownBy w' (some s)
end Go.Proofs.YtkbfocoaobiijaaGreat

namespace Go.Proofs.YtkbfocoaobiijaaGreat
open Go.RowKit
set_option maxRecDepth 100000
set_option linter.unusedSimpArgs false
set_option linter.unusedVariables false
theorem elR_pos {ms xs : List M} (h : elC ms xs = 0) : 0 < (elR ms xs).length := by
  obtain ⟨E, ps, hE⟩ := elC_el h
  rw [hE.r]; exact hE.pos
set_option maxHeartbeats 1000000 in
theorem l03With_any {s : Nat} {A : Option Addr} {n c : Nat} {zs : List Int} (w : World) (hS : Src w s A n c zs) :
    Calls Tryz.prog 155 #[.pointer (some ⟨s, 0, none⟩)] w (RetW s A n c zs w) := by
  have HS := Lib.hid hS
  have hsl := hS.lt
  clear hS
  go_enter Tryz.func155, Tryz.ntmps155
  go_wp2_with fail
  obtain ⟨wa, hwa⟩ : ∃ wa, wa = (w.alloc (.cells (mc M0) 31)).alloc (.cells (mc M0) 31) := ⟨_, rfl⟩
  have Hba : Hid (Below w.heap.size w wa) := by show Below _ _ _; rw [hwa]; exact ((Below.refl _ _).alloc (Nat.le_refl _) _).alloc (by simp) _
  have H3 : Hid (Blk wa w.heap.size 31 (mc M0)) := by show Blk _ _ _ _; rw [hwa]; exact (Blk.new w _ _).alloc _
  have H4 : Hid (Blk wa (w.heap.size + 1) 31 (mc M0)) := by show Blk _ _ _ _; rw [hwa]; exact Blk.new' _ _ _ (by simp)
  have hza : wa.heap.size = w.heap.size + 2 := by rw [hwa]; simp
  have Hza := Lib.hid hza
  have HSa := Lib.hid (HS.out.below Hba.out)
  have HC := Lib.hid (l03DrawList_any wa HSa.out)
  rw [hwa] at HC
  refine HC.out.mono ?_
  rintro e w1 ⟨v, ms, rfl, ho, hp, hS1, hg1⟩
  rw [← hwa] at ho hg1
  clear hwa hza HS HC
  obtain ⟨k, hk1, hk5, hlp⟩ := hp
  obtain ⟨g5, c5, rfl⟩ := ho.shape hlp.1
  obtain ⟨n5, hn5⟩ : ∃ n5, n5 = ms.length := ⟨_, rfl⟩
  rw [← hn5] at ho ⊢
  rw [Hza.out] at ho
  have Hn := Lib.hid hn5
  have Ho := Lib.hid ho
  have HS1 := Lib.hid hS1
  have Hg1 := Lib.hid (grown_trans (grown_below Hba.out _) hg1)
  have H31 := Lib.hid (H3.out.grown hg1 (fun e => by injection e with e; omega))
  have H41 := Lib.hid (H4.out.grown hg1 (fun e => by injection e with e; omega))
  have hz1 : w.heap.size + 2 ≤ w1.heap.size := by have := hg1.size; have := Hza.out; omega
  have hnp : 0 < n5 := by have := hlp.1; omega
  have hn6 : n5 ≤ 6 := by have := hlp.2.1; omega
  obtain ⟨m5, hm5⟩ : ∃ m5, m5 = n5 - 1 := ⟨_, rfl⟩
  have hml : m5 < n5 := by omega
  have hmz : (m5 : Int) < (n5 : Int) := by omega
  have hnz : (0 : Int) < (n5 : Int) := by omega
  have hwm : wrap64 ((n5 : Int) - 1) = (m5 : Int) := by
    rw [show (n5 : Int) - 1 = (m5 : Int) by omega]
    exact IntWalk.wrap64_in _ ⟨by omega, by omega⟩
  have hwm2 : IntKind.i64.wrap ((n5 : Int) - 1) = (m5 : Int) := by
    rw [show (n5 : Int) - 1 = (m5 : Int) by omega]
    exact IntWalk.i64_in _ ⟨by omega, by omega⟩
  have HP : Hid (∀ m ∈ ms, m.p = k) := hlp.2.2
  have Hlt5 := Lib.hid (ho.lt g5 rfl)
  have HL : Hid (∀ w', Below w1.heap.size w1 w' → SixAt w' g5 0 (gm ms 0) ∧ SixAt w' g5 (m5 * 6) (gm ms m5)) := fun w' hb => by
    obtain ⟨_, h2, h3, _⟩ := Ho.out.spotAt (k := 0) (by rw [← Hn.out]; exact hnp)
    obtain ⟨_, _, h5, _⟩ := Ho.out.spotAt (k := m5) (by rw [← Hn.out]; exact hml)
    rw [Nat.zero_mul] at h3
    exact ⟨h3.below hb h2, h5.below hb h2⟩
  obtain ⟨f0, hf0⟩ : ∃ f0, f0 = gm ms 0 := ⟨_, rfl⟩
  obtain ⟨gl, hgl⟩ : ∃ gl, gl = gm ms m5 := ⟨_, rfl⟩
  rw [← hf0, ← hgl] at HL
  have hfp : f0.p = (k : Int) := by rw [hf0]; exact HP.out _ (gm_mem (by rw [← Hn.out]; exact hnp))
  have Hfp := Lib.hid hfp
  have Hm5 := Lib.hid hm5
  have Hf0 := Lib.hid hf0
  clear ho hS1 hg1 hn5 hlp hm5 Hba H3 H4 HSa hf0 hgl hfp
  go_wp2_with fail
  refine wp_region_flags [] rfl (by kernel_rfl) (by kernel_rfl) [] (by kernel_rfl) _
    (fun o : RG => [.slice (some ⟨g5, 0, none⟩) n5 c5, .pointer (some ⟨g5, 0, none⟩), .agg (mc f0), .slice (some ⟨g5, 0, none⟩) n5 c5, .slice (some ⟨g5, 0, none⟩) n5 c5, I n5, I m5, .pointer (some ⟨g5, m5 * 6, none⟩), .agg (mc gl), .pointer (some ⟨o.q6, 0, none⟩), .pointer (some ⟨o.q7, 0, none⟩), undef, undef])
    (by intro o; simp only [putAll, List.setIfInBounds_toArray, List.set_cons_succ, List.set_cons_zero]; rfl)
    [] rfl _
    (by intro o; simp only [setAll, List.setIfInBounds_toArray, List.set_cons_succ, List.set_cons_zero]; rfl) (by kernel_rfl)
    (fun d o w' => SR w1 f0 gl (d 9) (d 10) (d 11) (d 12) o w')
    ⟨0, 0⟩ ⟨(Below.refl _ _).drew, by simp, by simp, by simp⟩ ?hop ?hQ
  case hop =>
    refine ⟨?_, ?_, ?_, ?_, ?_, ?_, ?_, ?_, ?_, ?_, ?_, ?_, ?_, trivial⟩
    · refine ⟨rfl, Flag.pure (fun _ _ _ h => h) fun d c w' hd hdeps hcl hS => ?_⟩
      skip
      clear hS hdeps hcl hd
      unfold Oper.wp
      go_simp
      exact ⟨rfl, fun t ht => by injection ht with ht; subst ht; rfl, rfl⟩
    · refine ⟨rfl, Flag.pure (fun _ _ _ h => h) fun d c w' hd hdeps hcl hS => ?_⟩
      skip
      clear hS hdeps hcl hd
      unfold Oper.wp
      go_simp
      exact ⟨rfl, fun t ht => by injection ht with ht; subst ht; rfl, rfl⟩
    · refine ⟨rfl, Flag.pure (fun _ _ _ h => h) fun d c w' hd hdeps hcl hS => ?_⟩
      obtain ⟨x0, x1, x2, x3, x4, x5⟩ := (HL.out w' hS.bel).1
      clear hS hdeps hcl hd
      unfold Oper.wp
      go_simp
      exact ⟨rfl, fun t ht => by injection ht with ht; subst ht; rfl, rfl⟩
    · refine ⟨rfl, Flag.pure (fun _ _ _ h => h) fun d c w' hd hdeps hcl hS => ?_⟩
      skip
      clear hS hdeps hcl hd
      unfold Oper.wp
      go_simp
      exact ⟨rfl, fun t ht => by injection ht with ht; subst ht; rfl, rfl⟩
    · refine ⟨rfl, Flag.pure (fun _ _ _ h => h) fun d c w' hd hdeps hcl hS => ?_⟩
      skip
      clear hS hdeps hcl hd
      unfold Oper.wp
      go_simp
      exact ⟨rfl, fun t ht => by injection ht with ht; subst ht; rfl, rfl⟩
    · refine ⟨rfl, Flag.pure (fun _ _ _ h => h) fun d c w' hd hdeps hcl hS => ?_⟩
      skip
      clear hS hdeps hcl hd
      unfold Oper.wp
      go_simp
      exact ⟨rfl, fun t ht => by injection ht with ht; subst ht; rfl, rfl⟩
    · refine ⟨rfl, Flag.pure (fun _ _ _ h => h) fun d c w' hd hdeps hcl hS => ?_⟩
      skip
      clear hS hdeps hcl hd
      unfold Oper.wp
      go_simp
      exact ⟨rfl, fun t ht => by injection ht with ht; subst ht; rfl, rfl⟩
    · refine ⟨rfl, Flag.pure (fun _ _ _ h => h) fun d c w' hd hdeps hcl hS => ?_⟩
      skip
      clear hS hdeps hcl hd
      unfold Oper.wp
      go_simp
      exact ⟨rfl, fun t ht => by injection ht with ht; subst ht; rfl, rfl⟩
    · refine ⟨rfl, Flag.pure (fun _ _ _ h => h) fun d c w' hd hdeps hcl hS => ?_⟩
      obtain ⟨x0, x1, x2, x3, x4, x5⟩ := (HL.out w' hS.bel).2
      clear hS hdeps hcl hd
      unfold Oper.wp
      go_simp
      exact ⟨rfl, fun t ht => by injection ht with ht; subst ht; rfl, rfl⟩
    · refine ⟨rfl, fun d o w' hd hdeps hcl hS => ?_⟩
      have hS : SR w1 f0 gl (d 9) (d 10) (d 11) (d 12) o w' := hS
      have d11 := hcl.down (k := 11) (j := 9) rfl (by kernel_rfl) hd
      rw [hd, d11] at hS
      have H := Lib.hid hS.do9
      clear hS hdeps hcl
      unfold Oper.wp
      go_simp
      refine FlagPost.own ({ o with q6 := w'.heap.size } : RG) 6 (.pointer (some ⟨w'.heap.size, 0, none⟩)) rfl rfl rfl ?_ rfl
      show SR _ _ _ true (d 10) (d 11) (d 12) _ _
      rw [d11]
      exact H.out
    · refine ⟨rfl, fun d o w' hd hdeps hcl hS => ?_⟩
      have hS : SR w1 f0 gl (d 9) (d 10) (d 11) (d 12) o w' := hS
      have d12 := hcl.down (k := 12) (j := 10) rfl (by kernel_rfl) hd
      rw [hd, d12] at hS
      have H := Lib.hid hS.do10
      clear hS hdeps hcl
      unfold Oper.wp
      go_simp
      refine FlagPost.own ({ o with q7 := w'.heap.size } : RG) 7 (.pointer (some ⟨w'.heap.size, 0, none⟩)) rfl rfl rfl ?_ rfl
      show SR _ _ _ (d 9) true (d 11) (d 12) _ _
      rw [d12]
      exact H.out
    · refine ⟨rfl, fun d o w' hd hdeps hcl hS => ?_⟩
      have hS : SR w1 f0 gl (d 9) (d 10) (d 11) (d 12) o w' := hS
      have d9 := hdeps 9 (by kernel_rfl)
      have d10 := hdeps 10 (by kernel_rfl)
      rw [hd, d9, d10] at hS
      obtain ⟨x0, x1, x2, x3, x4, x5⟩ := (hS.c6 rfl).1.six
      obtain ⟨z0, z1, z2, z3, z4, z5⟩ := (hS.c6 rfl).1.fr6
      have H := Lib.hid hS.do11
      clear hS hdeps hcl
      unfold Oper.wp
      go_simp
      refine ⟨o, [], ⟨rfl, fun t ht => by cases ht⟩, ?_, rfl, by simp⟩
      show SR _ _ _ (d 9) (d 10) true (d 12) _ _
      rw [d9, d10]
      exact H.out
    · refine ⟨rfl, fun d o w' hd hdeps hcl hS => ?_⟩
      have hS : SR w1 f0 gl (d 9) (d 10) (d 11) (d 12) o w' := hS
      have d9 := hdeps 9 (by kernel_rfl)
      have d10 := hdeps 10 (by kernel_rfl)
      rw [hd, d9, d10] at hS
      obtain ⟨x0, x1, x2, x3, x4, x5⟩ := (hS.c7 rfl).1.six
      obtain ⟨z0, z1, z2, z3, z4, z5⟩ := (hS.c7 rfl).1.fr6
      have H := Lib.hid hS.do12
      clear hS hdeps hcl
      unfold Oper.wp
      go_simp
      refine ⟨o, [], ⟨rfl, fun t ht => by cases ht⟩, ?_, rfl, by simp⟩
      show SR _ _ _ (d 9) (d 10) (d 11) true _ _
      rw [d9, d10]
      exact H.out
  case hQ =>
  intro fl o we hall hS
  have hS : SR w1 f0 gl (fl 9) (fl 10) (fl 11) (fl 12) o we := hS
  rw [hall 9 (by decide), hall 10 (by decide), hall 11 (by decide), hall 12 (by decide)] at hS
  obtain ⟨q6, q7⟩ := o
  have hbe := hS.bel
  obtain ⟨k6, h6⟩ := hS.c6 rfl
  obtain ⟨k7, h7⟩ := hS.c7 rfl
  have hne := hS.ne rfl rfl
  rw [if_pos rfl] at k6 k7
  have HW : Hid (WS w s A n c zs (.slice (some ⟨g5, 0, none⟩) n5 c5) ms q6 q7 f0 gl we) :=
    ⟨HS1.out.below hbe, grown_trans Hg1.out (grown_below hbe _), hsl, Ho.out.below hbe (Nat.le_refl _),
      fun b hb => by have e := ownB hb; have := Hlt5.out; have h6 : w1.heap.size ≤ q6 := h6; have h7 : w1.heap.size ≤ q7 := h7; omega,
      H31.out.below hbe H31.out.lt, H41.out.below hbe H41.out.lt, k6, k7, Nat.le_trans hz1 h6, Nat.le_trans hz1 h7, hne⟩
  clear hS hbe k6 k7 h6 h7 hne hall HL Ho H31 H41 HS1 Hg1
  go_wp2_with fail
  refine (l02ElementsF_any (some ⟨g5, 0, none⟩) none n5 c5 0 0 ms [] we HW.out.lst.rdM Rd.nil_ Hn.out.symm rfl (by omega) (by omega)).mono ?_
  rintro e w3 ⟨A8, c8, rfl, hr8, hf8, hb3⟩
  have HW3 := Lib.hid (HW.out.below hb3)
  obtain ⟨L8, hL8⟩ : ∃ L8, L8 = elR ms [] := ⟨_, rfl⟩
  obtain ⟨C, hC⟩ : ∃ C, C = elC ms [] := ⟨_, rfl⟩
  have Hpos : Hid (C = 0 → 0 < L8.length) := fun h => by rw [hL8]; exact elR_pos (by rw [← hC]; exact h)
  rw [← hL8] at hr8 ⊢
  rw [← hC]
  obtain ⟨E, hE⟩ : ∃ E, E = L8.length := ⟨_, rfl⟩
  rw [← hE] at Hpos ⊢
  have HE := Lib.hid hE
  have Hr8 := Lib.hid hr8
  have Hf8 := Lib.hid hf8
  have Hq : Hid (q6 < we.heap.size ∧ q7 < we.heap.size) := ⟨HW.out.c6.lt, HW.out.c7.lt⟩
  clear hL8 hC hr8 hf8 hb3 HW hE
  go_upto_if 27 with fail
  go_cut [] (fun wx => ∃ f g, WS w s A n c zs (.slice (some ⟨g5, 0, none⟩) n5 c5) ms q6 q7 f g wx)
  case first =>
    by_cases hC0 : C = 0
    · subst hC0
      have hEp : 0 < E := Hpos.out rfl
      have hEz : (0 : Int) < (E : Int) := by omega
      go_wp2_with fail
      refine (next_any E w3 HW3.out.src).mono ?_
      rintro e w4 ⟨r, rfl, hr, _, hS4, hg4⟩
      obtain ⟨hr0, hrE⟩ := hr (by omega)
      obtain ⟨j, hj⟩ : ∃ j : Nat, (j : Int) = r := ⟨r.toNat, by omega⟩
      subst hj
      have hjE : j < E := by omega
      have HW4 := Lib.hid (HW3.out.next hS4 hg4)
      have hr4 := Hr8.out.by_s HW3.out.src hg4
      have Hr4 := Lib.hid hr4
      obtain ⟨b8, off8, rfl, hb8, x0, x1, x2, x3, x4, x5⟩ := RdM.at_ hr4 (k := j) (by rw [← HE.out]; exact hjE)
      have hf8 := Hf8.out _ rfl
      obtain ⟨f, hf⟩ : ∃ f, f = gm L8 j := ⟨_, rfl⟩
      rw [← hf] at x0 x1 x2 x3 x4 x5
      obtain ⟨y0, y1, y2, y3, y4, y5⟩ := HW4.out.c6.six
      obtain ⟨z0, z1, z2, z3, z4, z5⟩ := HW4.out.c6.fr6
      have HW5 := Lib.hid (HW4.out.set6 f)
      have Hr5 := Lib.hid (Hr4.out.far6 (q := q6) (fun a ha => by injection ha with ha; subst ha; have := Hq.out.1; simp only at hf8 ⊢; omega) f)
      clear hr hS4 hg4 hr4 hf HW3 HW4 Hr4
      go_wp2_with fail
      refine (next_any E _ HW5.out.src).mono ?_
      rintro e w5 ⟨r, rfl, hr, _, hS5, hg5⟩
      obtain ⟨hr0', hrE'⟩ := hr (by omega)
      obtain ⟨i, hi⟩ : ∃ i : Nat, (i : Int) = r := ⟨r.toNat, by omega⟩
      subst hi
      have hiE : i < E := by omega
      have HW6 := Lib.hid (HW5.out.next hS5 hg5)
      have hr6 := Hr5.out.by_s HW5.out.src hg5
      obtain ⟨b9, off9, e9, hb9, x0, x1, x2, x3, x4, x5⟩ := RdM.at_ hr6 (k := i) (by rw [← HE.out]; exact hiE)
      injection e9 with e9
      injection e9 with e9 e10 _
      subst e9 e10
      obtain ⟨g', hg'⟩ : ∃ g', g' = gm L8 i := ⟨_, rfl⟩
      rw [← hg'] at x0 x1 x2 x3 x4 x5
      obtain ⟨y0, y1, y2, y3, y4, y5⟩ := HW6.out.c7.six
      obtain ⟨z0, z1, z2, z3, z4, z5⟩ := HW6.out.c7.fr6
      have HW7 := Lib.hid (HW6.out.set7 g')
      clear hr hS5 hg5 hr6 hg' HW5 HW6 Hr5
      go_wp2_with fail
      go_meet
      exact ⟨_, _, HW7.out⟩
    · have hCf : (C == 0) = false := by simpa using hC0
      go_wp2_with fail
      go_meet
      exact ⟨_, _, HW3.out⟩
  case rest =>
    clear Hr8 Hf8 HE Hq HW3 Hpos
    obtain ⟨f, g, hW⟩ := hcut
    have HW := Lib.hid hW
    clear hW
    go_wp2_with fail
    refine (next_any 16 wc HW.out.src).mono ?_
    rintro e w4 ⟨r, rfl, hr, _, hS4, hg4⟩
    have HW4 := Lib.hid (HW.out.next hS4 hg4)
    clear HW hS4 hg4 hr
    go_upto_block 0 with fail
    go_cut [] (fun wx => ∃ f g, WS w s A n c zs (.slice (some ⟨g5, 0, none⟩) n5 c5) ms q6 q7 f g wx)
    case first =>
      by_cases r0 : r = 0
      · subst r0
        obtain ⟨_, hgl, ⟨x0, _⟩, _⟩ := HW4.out.lst.spotAt (k := 0) (by rw [← Hn.out]; exact hnp)
        rw [Nat.zero_mul, ← Hf0.out, Hfp.out] at x0
        go_wp2_with fail
        refine (drawOf_any k hk1 hk5 w4 HW4.out.src).mono ?_
        rintro e w5 ⟨m, rfl, hm, hS5, hg5⟩
        clear hm
        have HW5 := Lib.hid (HW4.out.next hS5 hg5)
        obtain ⟨y0, y1, y2, y3, y4, y5⟩ := HW5.out.c6.six
        obtain ⟨z0, z1, z2, z3, z4, z5⟩ := HW5.out.c6.fr6
        have HW6 := Lib.hid (HW5.out.set6 m)
        clear hS5 hg5 HW4 HW5 x0
        go_wp2_with fail
        go_meet
        exact ⟨_, _, HW6.out⟩
      have r0f : (r == 0) = false := by simpa using r0
      by_cases r1 : r = 1
      · subst r1
        go_wp2_with fail
        refine (spoil_any w4 HW4.out.src).mono ?_
        rintro e w5 ⟨m, rfl, _, hS5, hg5⟩
        have HW5 := Lib.hid (HW4.out.next hS5 hg5)
        obtain ⟨y0, y1, y2, y3, y4, y5⟩ := HW5.out.c7.six
        obtain ⟨z0, z1, z2, z3, z4, z5⟩ := HW5.out.c7.fr6
        have HW6 := Lib.hid (HW5.out.set7 m)
        clear hS5 hg5 HW4 HW5
        go_wp2_with fail
        go_meet
        exact ⟨_, _, HW6.out⟩
      have r1f : (r == 1) = false := by simpa using r1
      go_wp2_with fail
      go_meet
      exact ⟨_, _, HW4.out⟩
    case rest =>
      clear HW4 Hf0 Hfp
      obtain ⟨f', g', hW⟩ := hcut
      have HW := Lib.hid hW
      clear hW
      go_upto_region 12 with fail
      refine wp_region_flags [] rfl (by kernel_rfl) (by kernel_rfl) [2] (by kernel_rfl) _
        (fun o : EG => [.pointer (some ⟨s, 0, none⟩), .slice (some ⟨g5, 0, none⟩) n5 c5, .slice o.A o.q o.c, .pointer (some ⟨s, 0, none⟩), .agg (mc f'), .agg (mc o.m3), .pointer (some ⟨s, 0, none⟩), .agg (mc g'), .agg (mc o.m4), .slice o.A o.q o.c, undef, undef])
        (by intro o; simp only [putAll, List.setIfInBounds_toArray, List.set_cons_succ, List.set_cons_zero]; rfl)
        [(2, .slice none 0 0)] rfl _
        (by intro o; simp only [setAll, List.setIfInBounds_toArray, List.set_cons_succ, List.set_cons_zero]; rfl) (by kernel_rfl)
        (fun d o w' => SE w s A n c zs (.slice (some ⟨g5, 0, none⟩) n5 c5) ms q6 q7 f' g' (d 2) (d 10) (d 11) o w')
        ⟨none, 0, 0, M0, M0⟩ ?hS ?hop ?hQ
      case hS =>
        have h := HW.out.below (Below.refl _ _).drew
        exact ⟨h.src, h.gr, h.low, fun _ => h.lst, by simp, h.c3, h.c4, h.c6, h.c7, h.h6, h.h7⟩
      case hop =>
        refine ⟨?_, ?_, ?_, ?_, ?_, ?_, ?_, ?_, ?_, ?_, ?_, ?_, trivial⟩
        · refine ⟨rfl, Flag.pure (fun _ _ _ h => h) fun d c w' hd hdeps hcl hS => ?_⟩
          skip
          clear hS hdeps hcl hd
          unfold Oper.wp
          go_simp
          exact ⟨rfl, fun t ht => by injection ht with ht; subst ht; rfl, rfl⟩
        · refine ⟨rfl, Flag.pure (fun _ _ _ h => h) fun d c w' hd hdeps hcl hS => ?_⟩
          skip
          clear hS hdeps hcl hd
          unfold Oper.wp
          go_simp
          exact ⟨rfl, fun t ht => by injection ht with ht; subst ht; rfl, rfl⟩
        · refine ⟨rfl, fun d o w' hd hdeps hcl hS => ?_⟩
          have hS : SE w s A n c zs (.slice (some ⟨g5, 0, none⟩) n5 c5) ms q6 q7 f' g' (d 2) (d 10) (d 11) o w' := hS
          have d9 := hcl.down (k := 9) (j := 2) rfl (by kernel_rfl) hd
          rw [hd] at hS
          have H := Lib.hid hS
          have hl := hS.low
          have hz := hS.gr.size
          have hz2 := hS.c7.lt
          have h7 := hS.h7
          clear hS hdeps hcl
          unfold Oper.wp
          go_simp
          refine (badList_any _ ms w' H.out.src (w.heap.size + 2) (by omega) (by omega) (H.out.lst rfl) (by rw [← Hn.out]; exact hnp) (by rw [← Hn.out]; exact hn6)).mono ?_
          rintro e w6 ⟨v, ls, rfl, ho, hp, hS6, hg6⟩
          obtain ⟨A', c', rfl, _⟩ := ho.form
          refine ⟨({ o with A := A', q := ls.length, c := c' } : EG), [(58, .slice A' ls.length c'), (2, .slice A' ls.length c')], ⟨rfl, fun t ht => by injection ht with ht; subst ht; rfl⟩, ?_, rfl, ?_⟩
          · exact H.out.do2 hS6 hg6 ho rfl hp
          · intro p hp
            simp at hp
            rcases hp with rfl | rfl
            · exact .inl rfl
            · exact .inr ⟨9, _, rfl, rfl, by decide, d9⟩
        · refine ⟨rfl, Flag.pure (fun _ _ _ h => h) fun d c w' hd hdeps hcl hS => ?_⟩
          skip
          clear hS hdeps hcl hd
          unfold Oper.wp
          go_simp
          exact ⟨rfl, fun t ht => by injection ht with ht; subst ht; rfl, rfl⟩
        · refine ⟨rfl, Flag.pure (fun _ _ _ h => h) fun d c w' hd hdeps hcl hS => ?_⟩
          obtain ⟨x0, x1, x2, x3, x4, x5⟩ := hS.c6.six
          clear hS hdeps hcl hd
          unfold Oper.wp
          go_simp
          exact ⟨rfl, fun t ht => by injection ht with ht; subst ht; rfl, rfl⟩
        · refine ⟨rfl, fun d o w' hd hdeps hcl hS => ?_⟩
          have hS : SE w s A n c zs (.slice (some ⟨g5, 0, none⟩) n5 c5) ms q6 q7 f' g' (d 2) (d 10) (d 11) o w' := hS
          have d10 := hcl.down (k := 10) (j := 5) rfl (by kernel_rfl) hd
          rw [d10] at hS
          have H := Lib.hid hS
          clear hS hdeps hcl
          unfold Oper.wp
          go_simp
          refine (bad_any f' w' H.out.src).mono ?_
          rintro e w6 ⟨m, rfl, _, hS6, hg6⟩
          refine FlagPost.own ({ o with m3 := m } : EG) 61 (.agg (mc m)) rfl rfl rfl ?_ rfl
          show SE _ _ _ _ _ _ _ _ _ _ _ _ (d 2) (d 10) (d 11) _ _
          rw [d10]
          exact H.out.do5 hS6 hg6 m
        · refine ⟨rfl, Flag.pure (fun _ _ _ h => h) fun d c w' hd hdeps hcl hS => ?_⟩
          skip
          clear hS hdeps hcl hd
          unfold Oper.wp
          go_simp
          exact ⟨rfl, fun t ht => by injection ht with ht; subst ht; rfl, rfl⟩
        · refine ⟨rfl, Flag.pure (fun _ _ _ h => h) fun d c w' hd hdeps hcl hS => ?_⟩
          obtain ⟨x0, x1, x2, x3, x4, x5⟩ := hS.c7.six
          clear hS hdeps hcl hd
          unfold Oper.wp
          go_simp
          exact ⟨rfl, fun t ht => by injection ht with ht; subst ht; rfl, rfl⟩
        · refine ⟨rfl, fun d o w' hd hdeps hcl hS => ?_⟩
          have hS : SE w s A n c zs (.slice (some ⟨g5, 0, none⟩) n5 c5) ms q6 q7 f' g' (d 2) (d 10) (d 11) o w' := hS
          have d11 := hcl.down (k := 11) (j := 8) rfl (by kernel_rfl) hd
          rw [d11] at hS
          have H := Lib.hid hS
          clear hS hdeps hcl
          unfold Oper.wp
          go_simp
          refine (bad_any g' w' H.out.src).mono ?_
          rintro e w6 ⟨m, rfl, _, hS6, hg6⟩
          refine FlagPost.own ({ o with m4 := m } : EG) 64 (.agg (mc m)) rfl rfl rfl ?_ rfl
          show SE _ _ _ _ _ _ _ _ _ _ _ _ (d 2) (d 10) (d 11) _ _
          rw [d11]
          exact H.out.do8 hS6 hg6 m
        · refine ⟨rfl, Flag.pure (fun _ _ _ h => h) fun d c w' hd hdeps hcl hS => ?_⟩
          skip
          clear hS hdeps hcl hd
          unfold Oper.wp
          go_simp
          exact ⟨rfl, fun t ht => by injection ht with ht; subst ht; rfl, rfl⟩
        · refine ⟨rfl, fun d o w' hd hdeps hcl hS => ?_⟩
          have hS : SE w s A n c zs (.slice (some ⟨g5, 0, none⟩) n5 c5) ms q6 q7 f' g' (d 2) (d 10) (d 11) o w' := hS
          rw [hd] at hS
          obtain ⟨x0, x1, x2, x3, x4, x5⟩ := hS.c3.six
          obtain ⟨z0, z1, z2, z3, z4, z5⟩ := hS.c3.fr6
          have H := Lib.hid hS.do10
          clear hS hdeps hcl
          unfold Oper.wp
          go_simp
          refine ⟨o, [], ⟨rfl, fun t ht => by cases ht⟩, ?_, rfl, by simp⟩
          exact H.out
        · refine ⟨rfl, fun d o w' hd hdeps hcl hS => ?_⟩
          have hS : SE w s A n c zs (.slice (some ⟨g5, 0, none⟩) n5 c5) ms q6 q7 f' g' (d 2) (d 10) (d 11) o w' := hS
          rw [hd] at hS
          obtain ⟨x0, x1, x2, x3, x4, x5⟩ := hS.c4.six
          obtain ⟨z0, z1, z2, z3, z4, z5⟩ := hS.c4.fr6
          have H := Lib.hid hS.do11
          clear hS hdeps hcl
          unfold Oper.wp
          go_simp
          refine ⟨o, [], ⟨rfl, fun t ht => by cases ht⟩, ?_, rfl, by simp⟩
          exact H.out
      case hQ =>
      intro fl o we hall hS
      have hS : SE w s A n c zs (.slice (some ⟨g5, 0, none⟩) n5 c5) ms q6 q7 f' g' (fl 2) (fl 10) (fl 11) o we := hS
      rw [hall 2 (by decide), hall 10 (by decide), hall 11 (by decide)] at hS
      obtain ⟨A9, q9, c9, m3, m4⟩ := o
      obtain ⟨ls, ho, hq9, hq97⟩ := hS.new rfl
      have k3 := hS.c3
      have k4 := hS.c4
      rw [if_pos rfl] at k3 k4
      obtain ⟨x0, x1, x2, x3, x4, x5⟩ := k3.six
      obtain ⟨y0, y1, y2, y3, y4, y5⟩ := k4.six
      have HR : Hid (RetW s A n c zs w (.returned (.tuple #[.slice A9 q9 c9, .agg (mc m3), .agg (mc m4)])) we) := ⟨A9, q9, c9, ls, m3, m4, rfl, ho.mono (by omega), hq9, hq97, hS.src, hS.gr⟩
      clear hS hall ho hq9 hq97 k3 k4 HW
      go_wp2_with fail
      refine bodyPost_ret (v := .tuple #[.slice A9 q9 c9, .agg (mc m3), .agg (mc m4)]) ?_ rfl HR.out
      simp [results, Tryz.results155, go_sem, *]
end Go.Proofs.YtkbfocoaobiijaaGreat

namespace Go.Proofs.YtkbfocoaobiijaaGreat
open Go.RowKit
set_option maxRecDepth 100000
set_option linter.unusedSimpArgs false
set_option linter.unusedVariables false
def RetD1 (w : World) (e : Ending) (w' : World) : Prop :=
  ∃ (A : Option Addr) (q c : Nat) (ls : List M) (f : M), e = .returned (.tuple #[.slice A q c, .agg (mc f)]) ∧ q = ls.length ∧ OwM 31 w' w.heap.size (.slice A q c) ls ∧ q ≤ 7 ∧ Below w.heap.size w w'
def RetD2 (w : World) (e : Ending) (w' : World) : Prop :=
  ∃ (A : Option Addr) (q c : Nat) (ls : List M) (f g : M), e = .returned (.tuple #[.slice A q c, .agg (mc f), .agg (mc g)]) ∧ q = ls.length ∧ OwM 31 w' w.heap.size (.slice A q c) ls ∧ q ≤ 7 ∧ Below w.heap.size w w'
def RetD3 (w : World) (e : Ending) (w' : World) : Prop :=
  ∃ (A : Option Addr) (q c : Nat) (ls : List M) (f g : M) (k : Int), e = .returned (.tuple #[.slice A q c, .agg (mc f), .agg (mc g), I k]) ∧ q = ls.length ∧ OwM 31 w' w.heap.size (.slice A q c) ls ∧ q ≤ 7 ∧ Below w.heap.size w w'
structure SD1 (w0 : World) (v : Value) (ms : List M) (q5 : Nat) (f : M) (b3 : Bool) (w : World) : Prop where
  bel : Below w0.heap.size w0 w
  lst : OwM 31 w (w0.heap.size + 1) v ms
  c3 : Blk w w0.heap.size 31 (mc (if b3 then f else M0))
  c5 : Blk w q5 31 (mc f)
  h5 : w0.heap.size + 1 ≤ q5
theorem SD1.do3 {w0 w : World} {v : Value} {ms : List M} {q5 : Nat} {f : M} (h : SD1 w0 v ms q5 f false w) : SD1 w0 v ms q5 f true (st6 w w0.heap.size f) :=
  have h5 := h.h5
  ⟨below_st6 h.bel (Nat.le_refl _) f, h.lst.st6f (h.lst.no (by omega)) f, h.c3.st6 f, h.c5.st6f (by omega) f, h.h5⟩
structure SD2 (w0 : World) (v : Value) (ms : List M) (q6 q7 : Nat) (f g : M) (b3 b4 : Bool) (w : World) : Prop where
  bel : Below w0.heap.size w0 w
  lst : OwM 31 w (w0.heap.size + 2) v ms
  c3 : Blk w w0.heap.size 31 (mc (if b3 then f else M0))
  c4 : Blk w (w0.heap.size + 1) 31 (mc (if b4 then g else M0))
  c6 : Blk w q6 31 (mc f)
  c7 : Blk w q7 31 (mc g)
  h6 : w0.heap.size + 2 ≤ q6
  h7 : w0.heap.size + 2 ≤ q7
section
variable {w0 w : World} {v : Value} {ms : List M} {q6 q7 : Nat} {f g : M} {b3 b4 : Bool}
theorem SD2.do3 (h : SD2 w0 v ms q6 q7 f g false b4 w) : SD2 w0 v ms q6 q7 f g true b4 (st6 w w0.heap.size f) :=
  have h6 := h.h6
  have h7 := h.h7
  ⟨below_st6 h.bel (Nat.le_refl _) f, h.lst.st6f (h.lst.no (by omega)) f, h.c3.st6 f, h.c4.st6f (by omega) f, h.c6.st6f (by omega) f, h.c7.st6f (by omega) f, h.h6, h.h7⟩
theorem SD2.do4 (h : SD2 w0 v ms q6 q7 f g b3 false w) : SD2 w0 v ms q6 q7 f g b3 true (st6 w (w0.heap.size + 1) g) :=
  have h6 := h.h6
  have h7 := h.h7
  ⟨below_st6 h.bel (by omega) g, h.lst.st6f (h.lst.no (by omega)) g, h.c3.st6f (by omega) g, h.c4.st6 g, h.c6.st6f (by omega) g, h.c7.st6f (by omega) g, h.h6, h.h7⟩
end
set_option maxHeartbeats 1000000 in
theorem DrawGridOf_any {A : Option Addr} {n c : Nat} {zs : List Int} (w : World) (hx : RdU w w.heap.size A zs) (hn : zs.length = n) (hb : n < 4611686018427387904) :
    Calls Tryz.prog 41 #[.slice A n c] w (RetD1 w) := by
  have hb0 : Below w.heap.size w (w.alloc (.cells (mc M0) 31)) := (Below.refl _ _).alloc (Nat.le_refl _) _
  have HF := Lib.hid (from_any (A := A) (n := n) (c := c) (w.alloc (.cells (mc M0) 31)) ⟨Rd.more (hx.below hb0).1 (by simp), hx.2⟩ hn hb)
  have H3 := Lib.hid (Blk.new w 31 (mc M0))
  have Hb0 := Lib.hid hb0
  have hz0 : (w.alloc (.cells (mc M0) 31)).heap.size = w.heap.size + 1 := by simp
  have Hz0 := Lib.hid hz0
  clear hx hn hb hb0 hz0
  go_enter Tryz.func41, Tryz.ntmps41
  go_wp2_with fail
  refine HF.out.mono ?_
  rintro e w1 ⟨s, rfl, hs, hS1, hb1⟩
  rw [Hz0.out] at hs hb1
  have HS1 := Lib.hid hS1
  have Hb1 := Lib.hid (Hb0.out.trans (hb1.mono (Nat.le_succ _)))
  have H31 := Lib.hid (H3.out.below hb1 (Nat.lt_succ_self _))
  have hz1 := hb1.size
  rw [Hz0.out] at hz1
  clear hS1 hb1 HF H3 Hb0
  go_wp2_with fail
  refine (l03With_any w1 HS1.out).mono ?_
  rintro e w2 ⟨A5, q5, c5, ls, f, g, rfl, ho, hq, hq7, hS2, hg2⟩
  have Ho2 := Lib.hid (ho.mono hz1)
  have Hb2 := Lib.hid (Hb1.out.trans ((bel_s hg2 (Nat.le_of_lt HS1.out.lt)).mono (Nat.le_trans (Nat.le_succ _) hs)))
  have H32 := Lib.hid (H31.out.grown hg2 (fun e => by injection e with e; omega))
  have hz2 := hg2.size
  have Hq := Lib.hid hq
  have Hq7 := Lib.hid hq7
  clear ho hS2 hg2 hq hq7 HS1 Hb1 H31
  go_wp2_with fail
  have S0 : Hid (SD1 w (.slice A5 q5 c5) ls w2.heap.size f false ((w2.alloc (.cells (mc f) 31)).alloc (.cells (mc g) 31))) :=
    ⟨(Hb2.out.alloc (by omega) _).alloc (by simp; omega) _, (Ho2.out.alloc _).alloc _, (H32.out.alloc _).alloc _, (Blk.new w2 _ _).alloc _, by omega⟩
  have hqq : w.heap.size + 1 ≤ w2.heap.size := by omega
  clear Ho2 Hb2 H32
  refine wp_region_flags [] rfl (by kernel_rfl) (by kernel_rfl) [] (by kernel_rfl) _
    (fun o : Unit => [.slice A5 q5 c5, .agg (mc f), .slice A5 q5 c5, undef])
    (by intro o; simp only [putAll, List.setIfInBounds_toArray, List.set_cons_succ, List.set_cons_zero]; rfl)
    [] rfl _
    (by intro o; simp only [setAll, List.setIfInBounds_toArray, List.set_cons_succ, List.set_cons_zero]; rfl) (by kernel_rfl)
    (fun d o w' => SD1 w (.slice A5 q5 c5) ls w2.heap.size f (d 3) w')
    () ⟨S0.out.bel.drew, S0.out.lst, S0.out.c3, S0.out.c5, S0.out.h5⟩ ?hop ?hQ
  case hop =>
    refine ⟨?_, ?_, ?_, ?_, trivial⟩
    · refine ⟨rfl, Flag.pure (fun _ _ _ h => h) fun d c w' hd hdeps hcl hS => ?_⟩
      skip
      clear hS hdeps hcl hd
      unfold Oper.wp
      go_simp
      exact ⟨rfl, fun t ht => by injection ht with ht; subst ht; rfl, rfl⟩
    · refine ⟨rfl, Flag.pure (fun _ _ _ h => h) fun d c w' hd hdeps hcl hS => ?_⟩
      obtain ⟨x0, x1, x2, x3, x4, x5⟩ := hS.c5.six
      clear hS hdeps hcl hd
      unfold Oper.wp
      go_simp
      exact ⟨rfl, fun t ht => by injection ht with ht; subst ht; rfl, rfl⟩
    · refine ⟨rfl, Flag.pure (fun _ _ _ h => h) fun d c w' hd hdeps hcl hS => ?_⟩
      skip
      clear hS hdeps hcl hd
      unfold Oper.wp
      go_simp
      exact ⟨rfl, fun t ht => by injection ht with ht; subst ht; rfl, rfl⟩
    · refine ⟨rfl, fun d o w' hd hdeps hcl hS => ?_⟩
      have hS : SD1 w (.slice A5 q5 c5) ls w2.heap.size f (d 3) w' := hS
      rw [hd] at hS
      obtain ⟨x0, x1, x2, x3, x4, x5⟩ := hS.c3.six
      obtain ⟨z0, z1, z2, z3, z4, z5⟩ := hS.c3.fr6
      have H := Lib.hid hS.do3
      clear hS hdeps hcl
      unfold Oper.wp
      go_simp
      refine ⟨o, [], ⟨rfl, fun t ht => by cases ht⟩, ?_, rfl, by simp⟩
      exact H.out
  case hQ =>
  intro fl o we hall hS
  have hS : SD1 w (.slice A5 q5 c5) ls w2.heap.size f (fl 3) we := hS
  rw [hall 3 (by decide)] at hS
  have k3 := hS.c3
  rw [if_pos rfl] at k3
  obtain ⟨x0, x1, x2, x3, x4, x5⟩ := k3.six
  have HR : Hid (RetD1 w (.returned (.tuple #[.slice A5 q5 c5, .agg (mc f)])) we) := ⟨A5, q5, c5, ls, f, rfl, Hq.out, hS.lst.mono (Nat.le_succ _), Hq7.out, hS.bel⟩
  clear hS hall k3 S0
  go_wp2_with fail
  refine bodyPost_ret (v := .tuple #[.slice A5 q5 c5, .agg (mc f)]) ?_ rfl HR.out
  simp [results, Tryz.results41, go_sem, *]
set_option maxHeartbeats 1000000 in
theorem DrawGroupWith_any {A : Option Addr} {n c : Nat} {zs : List Int} (w : World) (hx : RdU w w.heap.size A zs) (hn : zs.length = n) (hb : n < 4611686018427387904) :
    Calls Tryz.prog 51 #[.slice A n c] w (RetD1 w) := by
  have hb0 : Below w.heap.size w (w.alloc (.cells (mc M0) 31)) := (Below.refl _ _).alloc (Nat.le_refl _) _
  have HF := Lib.hid (from_any (A := A) (n := n) (c := c) (w.alloc (.cells (mc M0) 31)) ⟨Rd.more (hx.below hb0).1 (by simp), hx.2⟩ hn hb)
  have H3 := Lib.hid (Blk.new w 31 (mc M0))
  have Hb0 := Lib.hid hb0
  have hz0 : (w.alloc (.cells (mc M0) 31)).heap.size = w.heap.size + 1 := by simp
  have Hz0 := Lib.hid hz0
  clear hx hn hb hb0 hz0
  go_enter Tryz.func51, Tryz.ntmps51
  go_wp2_with fail
  refine HF.out.mono ?_
  rintro e w1 ⟨s, rfl, hs, hS1, hb1⟩
  rw [Hz0.out] at hs hb1
  have HS1 := Lib.hid hS1
  have Hb1 := Lib.hid (Hb0.out.trans (hb1.mono (Nat.le_succ _)))
  have H31 := Lib.hid (H3.out.below hb1 (Nat.lt_succ_self _))
  have hz1 := hb1.size
  rw [Hz0.out] at hz1
  clear hS1 hb1 HF H3 Hb0
  go_wp2_with fail
  refine (l03With_any w1 HS1.out).mono ?_
  rintro e w2 ⟨A5, q5, c5, ls, f, g, rfl, ho, hq, hq7, hS2, hg2⟩
  have Ho2 := Lib.hid (ho.mono hz1)
  have Hb2 := Lib.hid (Hb1.out.trans ((bel_s hg2 (Nat.le_of_lt HS1.out.lt)).mono (Nat.le_trans (Nat.le_succ _) hs)))
  have H32 := Lib.hid (H31.out.grown hg2 (fun e => by injection e with e; omega))
  have hz2 := hg2.size
  have Hq := Lib.hid hq
  have Hq7 := Lib.hid hq7
  clear ho hS2 hg2 hq hq7 HS1 Hb1 H31
  go_wp2_with fail
  have S0 : Hid (SD1 w (.slice A5 q5 c5) ls w2.heap.size f false ((w2.alloc (.cells (mc f) 31)).alloc (.cells (mc g) 31))) :=
    ⟨(Hb2.out.alloc (by omega) _).alloc (by simp; omega) _, (Ho2.out.alloc _).alloc _, (H32.out.alloc _).alloc _, (Blk.new w2 _ _).alloc _, by omega⟩
  have hqq : w.heap.size + 1 ≤ w2.heap.size := by omega
  clear Ho2 Hb2 H32
  refine wp_region_flags [] rfl (by kernel_rfl) (by kernel_rfl) [] (by kernel_rfl) _
    (fun o : Unit => [.slice A5 q5 c5, .agg (mc f), .slice A5 q5 c5, undef])
    (by intro o; simp only [putAll, List.setIfInBounds_toArray, List.set_cons_succ, List.set_cons_zero]; rfl)
    [] rfl _
    (by intro o; simp only [setAll, List.setIfInBounds_toArray, List.set_cons_succ, List.set_cons_zero]; rfl) (by kernel_rfl)
    (fun d o w' => SD1 w (.slice A5 q5 c5) ls w2.heap.size f (d 3) w')
    () ⟨S0.out.bel.drew, S0.out.lst, S0.out.c3, S0.out.c5, S0.out.h5⟩ ?hop ?hQ
  case hop =>
    refine ⟨?_, ?_, ?_, ?_, trivial⟩
    · refine ⟨rfl, Flag.pure (fun _ _ _ h => h) fun d c w' hd hdeps hcl hS => ?_⟩
      skip
      clear hS hdeps hcl hd
      unfold Oper.wp
      go_simp
      exact ⟨rfl, fun t ht => by injection ht with ht; subst ht; rfl, rfl⟩
    · refine ⟨rfl, Flag.pure (fun _ _ _ h => h) fun d c w' hd hdeps hcl hS => ?_⟩
      obtain ⟨x0, x1, x2, x3, x4, x5⟩ := hS.c5.six
      clear hS hdeps hcl hd
      unfold Oper.wp
      go_simp
      exact ⟨rfl, fun t ht => by injection ht with ht; subst ht; rfl, rfl⟩
    · refine ⟨rfl, Flag.pure (fun _ _ _ h => h) fun d c w' hd hdeps hcl hS => ?_⟩
      skip
      clear hS hdeps hcl hd
      unfold Oper.wp
      go_simp
      exact ⟨rfl, fun t ht => by injection ht with ht; subst ht; rfl, rfl⟩
    · refine ⟨rfl, fun d o w' hd hdeps hcl hS => ?_⟩
      have hS : SD1 w (.slice A5 q5 c5) ls w2.heap.size f (d 3) w' := hS
      rw [hd] at hS
      obtain ⟨x0, x1, x2, x3, x4, x5⟩ := hS.c3.six
      obtain ⟨z0, z1, z2, z3, z4, z5⟩ := hS.c3.fr6
      have H := Lib.hid hS.do3
      clear hS hdeps hcl
      unfold Oper.wp
      go_simp
      refine ⟨o, [], ⟨rfl, fun t ht => by cases ht⟩, ?_, rfl, by simp⟩
      exact H.out
  case hQ =>
  intro fl o we hall hS
  have hS : SD1 w (.slice A5 q5 c5) ls w2.heap.size f (fl 3) we := hS
  rw [hall 3 (by decide)] at hS
  have k3 := hS.c3
  rw [if_pos rfl] at k3
  obtain ⟨x0, x1, x2, x3, x4, x5⟩ := k3.six
  have HR : Hid (RetD1 w (.returned (.tuple #[.slice A5 q5 c5, .agg (mc f)])) we) := ⟨A5, q5, c5, ls, f, rfl, Hq.out, hS.lst.mono (Nat.le_succ _), Hq7.out, hS.bel⟩
  clear hS hall k3 S0
  go_wp2_with fail
  refine bodyPost_ret (v := .tuple #[.slice A5 q5 c5, .agg (mc f)]) ?_ rfl HR.out
  simp [results, Tryz.results51, go_sem, *]
set_option maxHeartbeats 1000000 in
theorem DrawIsRegular_any {A : Option Addr} {n c : Nat} {zs : List Int} (w : World) (hx : RdU w w.heap.size A zs) (hn : zs.length = n) (hb : n < 4611686018427387904) :
    Calls Tryz.prog 64 #[.slice A n c] w (RetD1 w) := by
  have hb0 : Below w.heap.size w (w.alloc (.cells (mc M0) 31)) := (Below.refl _ _).alloc (Nat.le_refl _) _
  have HF := Lib.hid (from_any (A := A) (n := n) (c := c) (w.alloc (.cells (mc M0) 31)) ⟨Rd.more (hx.below hb0).1 (by simp), hx.2⟩ hn hb)
  have H3 := Lib.hid (Blk.new w 31 (mc M0))
  have Hb0 := Lib.hid hb0
  have hz0 : (w.alloc (.cells (mc M0) 31)).heap.size = w.heap.size + 1 := by simp
  have Hz0 := Lib.hid hz0
  clear hx hn hb hb0 hz0
  go_enter Tryz.func64, Tryz.ntmps64
  go_wp2_with fail
  refine HF.out.mono ?_
  rintro e w1 ⟨s, rfl, hs, hS1, hb1⟩
  rw [Hz0.out] at hs hb1
  have HS1 := Lib.hid hS1
  have Hb1 := Lib.hid (Hb0.out.trans (hb1.mono (Nat.le_succ _)))
  have H31 := Lib.hid (H3.out.below hb1 (Nat.lt_succ_self _))
  have hz1 := hb1.size
  rw [Hz0.out] at hz1
  clear hS1 hb1 HF H3 Hb0
  go_wp2_with fail
  refine (l03With_any w1 HS1.out).mono ?_
  rintro e w2 ⟨A5, q5, c5, ls, f, g, rfl, ho, hq, hq7, hS2, hg2⟩
  have Ho2 := Lib.hid (ho.mono hz1)
  have Hb2 := Lib.hid (Hb1.out.trans ((bel_s hg2 (Nat.le_of_lt HS1.out.lt)).mono (Nat.le_trans (Nat.le_succ _) hs)))
  have H32 := Lib.hid (H31.out.grown hg2 (fun e => by injection e with e; omega))
  have hz2 := hg2.size
  have Hq := Lib.hid hq
  have Hq7 := Lib.hid hq7
  clear ho hS2 hg2 hq hq7 HS1 Hb1 H31
  go_wp2_with fail
  have S0 : Hid (SD1 w (.slice A5 q5 c5) ls w2.heap.size f false ((w2.alloc (.cells (mc f) 31)).alloc (.cells (mc g) 31))) :=
    ⟨(Hb2.out.alloc (by omega) _).alloc (by simp; omega) _, (Ho2.out.alloc _).alloc _, (H32.out.alloc _).alloc _, (Blk.new w2 _ _).alloc _, by omega⟩
  have hqq : w.heap.size + 1 ≤ w2.heap.size := by omega
  clear Ho2 Hb2 H32
  refine wp_region_flags [] rfl (by kernel_rfl) (by kernel_rfl) [] (by kernel_rfl) _
    (fun o : Unit => [.slice A5 q5 c5, .agg (mc f), .slice A5 q5 c5, undef])
    (by intro o; simp only [putAll, List.setIfInBounds_toArray, List.set_cons_succ, List.set_cons_zero]; rfl)
    [] rfl _
    (by intro o; simp only [setAll, List.setIfInBounds_toArray, List.set_cons_succ, List.set_cons_zero]; rfl) (by kernel_rfl)
    (fun d o w' => SD1 w (.slice A5 q5 c5) ls w2.heap.size f (d 3) w')
    () ⟨S0.out.bel.drew, S0.out.lst, S0.out.c3, S0.out.c5, S0.out.h5⟩ ?hop ?hQ
  case hop =>
    refine ⟨?_, ?_, ?_, ?_, trivial⟩
    · refine ⟨rfl, Flag.pure (fun _ _ _ h => h) fun d c w' hd hdeps hcl hS => ?_⟩
      skip
      clear hS hdeps hcl hd
      unfold Oper.wp
      go_simp
      exact ⟨rfl, fun t ht => by injection ht with ht; subst ht; rfl, rfl⟩
    · refine ⟨rfl, Flag.pure (fun _ _ _ h => h) fun d c w' hd hdeps hcl hS => ?_⟩
      obtain ⟨x0, x1, x2, x3, x4, x5⟩ := hS.c5.six
      clear hS hdeps hcl hd
      unfold Oper.wp
      go_simp
      exact ⟨rfl, fun t ht => by injection ht with ht; subst ht; rfl, rfl⟩
    · refine ⟨rfl, Flag.pure (fun _ _ _ h => h) fun d c w' hd hdeps hcl hS => ?_⟩
      skip
      clear hS hdeps hcl hd
      unfold Oper.wp
      go_simp
      exact ⟨rfl, fun t ht => by injection ht with ht; subst ht; rfl, rfl⟩
    · refine ⟨rfl, fun d o w' hd hdeps hcl hS => ?_⟩
      have hS : SD1 w (.slice A5 q5 c5) ls w2.heap.size f (d 3) w' := hS
      rw [hd] at hS
      obtain ⟨x0, x1, x2, x3, x4, x5⟩ := hS.c3.six
      obtain ⟨z0, z1, z2, z3, z4, z5⟩ := hS.c3.fr6
      have H := Lib.hid hS.do3
      clear hS hdeps hcl
      unfold Oper.wp
      go_simp
      refine ⟨o, [], ⟨rfl, fun t ht => by cases ht⟩, ?_, rfl, by simp⟩
      exact H.out
  case hQ =>
  intro fl o we hall hS
  have hS : SD1 w (.slice A5 q5 c5) ls w2.heap.size f (fl 3) we := hS
  rw [hall 3 (by decide)] at hS
  have k3 := hS.c3
  rw [if_pos rfl] at k3
  obtain ⟨x0, x1, x2, x3, x4, x5⟩ := k3.six
  have HR : Hid (RetD1 w (.returned (.tuple #[.slice A5 q5 c5, .agg (mc f)])) we) := ⟨A5, q5, c5, ls, f, rfl, Hq.out, hS.lst.mono (Nat.le_succ _), Hq7.out, hS.bel⟩
  clear hS hall k3 S0
  go_wp2_with fail
  refine bodyPost_ret (v := .tuple #[.slice A5 q5 c5, .agg (mc f)]) ?_ rfl HR.out
  simp [results, Tryz.results64, go_sem, *]
set_option maxHeartbeats 1000000 in
theorem DrawIsUnder_any {A : Option Addr} {n c : Nat} {zs : List Int} (w : World) (hx : RdU w w.heap.size A zs) (hn : zs.length = n) (hb : n < 4611686018427387904) :
    Calls Tryz.prog 58 #[.slice A n c] w (RetD2 w) := by
  obtain ⟨wa, hwa⟩ : ∃ wa, wa = (w.alloc (.cells (mc M0) 31)).alloc (.cells (mc M0) 31) := ⟨_, rfl⟩
  have hb0 : Below w.heap.size w wa := by rw [hwa]; exact ((Below.refl _ _).alloc (Nat.le_refl _) _).alloc (by simp) _
  have H3 : Hid (Blk wa w.heap.size 31 (mc M0)) := by show Blk _ _ _ _; rw [hwa]; exact (Blk.new w _ _).alloc _
  have H4 : Hid (Blk wa (w.heap.size + 1) 31 (mc M0)) := by show Blk _ _ _ _; rw [hwa]; exact Blk.new' _ _ _ (by simp)
  have hz0 : wa.heap.size = w.heap.size + 2 := by rw [hwa]; simp
  have HF := Lib.hid (from_any (A := A) (n := n) (c := c) wa ⟨Rd.more (hx.below hb0).1 (by omega), hx.2⟩ hn hb)
  have Hb0 := Lib.hid hb0
  have Hz0 := Lib.hid hz0
  rw [hwa] at HF
  clear hx hn hb hb0 hz0
  go_enter Tryz.func58, Tryz.ntmps58
  go_wp2_with fail
  refine HF.out.mono ?_
  rintro e w1 ⟨s, rfl, hs, hS1, hb1⟩
  rw [← hwa] at hs hb1
  rw [Hz0.out] at hs hb1
  clear hwa
  have HS1 := Lib.hid hS1
  have Hb1 := Lib.hid (Hb0.out.trans (hb1.mono (by omega)))
  have H31 := Lib.hid (H3.out.below hb1 (by omega))
  have H41 := Lib.hid (H4.out.below hb1 (by omega))
  have hz1 := hb1.size
  rw [Hz0.out] at hz1
  clear hS1 hb1 HF H3 H4 Hb0
  go_wp2_with fail
  refine (l03With_any w1 HS1.out).mono ?_
  rintro e w2 ⟨A5, q5, c5, ls, f, g, rfl, ho, hq, hq7, hS2, hg2⟩
  have Ho2 := Lib.hid (ho.mono hz1)
  have Hb2 := Lib.hid (Hb1.out.trans ((bel_s hg2 (Nat.le_of_lt HS1.out.lt)).mono (by omega)))
  have H32 := Lib.hid (H31.out.grown hg2 (fun e => by injection e with e; omega))
  have H42 := Lib.hid (H41.out.grown hg2 (fun e => by injection e with e; omega))
  have hz2 := hg2.size
  have Hq := Lib.hid hq
  have Hq7 := Lib.hid hq7
  clear ho hS2 hg2 hq hq7 HS1 Hb1 H31 H41
  go_wp2_with fail
  have S0 : Hid (SD2 w (.slice A5 q5 c5) ls w2.heap.size (w2.heap.size + 1) f g false false ((w2.alloc (.cells (mc f) 31)).alloc (.cells (mc g) 31))) :=
    ⟨(Hb2.out.alloc (by omega) _).alloc (by simp; omega) _, (Ho2.out.alloc _).alloc _, (H32.out.alloc _).alloc _, (H42.out.alloc _).alloc _, (Blk.new w2 _ _).alloc _, Blk.new' _ _ _ (by simp), by omega, by omega⟩
  clear Ho2 Hb2 H32 H42
  refine wp_region_flags [] rfl (by kernel_rfl) (by kernel_rfl) [] (by kernel_rfl) _
    (fun o : Unit => [.slice A5 q5 c5, .agg (mc f), .agg (mc g), .slice A5 q5 c5, undef, undef])
    (by intro o; simp only [putAll, List.setIfInBounds_toArray, List.set_cons_succ, List.set_cons_zero]; rfl)
    [] rfl _
    (by intro o; simp only [setAll, List.setIfInBounds_toArray, List.set_cons_succ, List.set_cons_zero]; rfl) (by kernel_rfl)
    (fun d o w' => SD2 w (.slice A5 q5 c5) ls w2.heap.size (w2.heap.size + 1) f g (d 4) (d 5) w')
    () ⟨S0.out.bel.drew, S0.out.lst, S0.out.c3, S0.out.c4, S0.out.c6, S0.out.c7, S0.out.h6, S0.out.h7⟩ ?hop ?hQ
  case hop =>
    refine ⟨?_, ?_, ?_, ?_, ?_, ?_, trivial⟩
    · refine ⟨rfl, Flag.pure (fun _ _ _ h => h) fun d c w' hd hdeps hcl hS => ?_⟩
      skip
      clear hS hdeps hcl hd
      unfold Oper.wp
      go_simp
      exact ⟨rfl, fun t ht => by injection ht with ht; subst ht; rfl, rfl⟩
    · refine ⟨rfl, Flag.pure (fun _ _ _ h => h) fun d c w' hd hdeps hcl hS => ?_⟩
      obtain ⟨x0, x1, x2, x3, x4, x5⟩ := hS.c6.six
      clear hS hdeps hcl hd
      unfold Oper.wp
      go_simp
      exact ⟨rfl, fun t ht => by injection ht with ht; subst ht; rfl, rfl⟩
    · refine ⟨rfl, Flag.pure (fun _ _ _ h => h) fun d c w' hd hdeps hcl hS => ?_⟩
      obtain ⟨x0, x1, x2, x3, x4, x5⟩ := hS.c7.six
      clear hS hdeps hcl hd
      unfold Oper.wp
      go_simp
      exact ⟨rfl, fun t ht => by injection ht with ht; subst ht; rfl, rfl⟩
    · refine ⟨rfl, Flag.pure (fun _ _ _ h => h) fun d c w' hd hdeps hcl hS => ?_⟩
      skip
      clear hS hdeps hcl hd
      unfold Oper.wp
      go_simp
      exact ⟨rfl, fun t ht => by injection ht with ht; subst ht; rfl, rfl⟩
    · refine ⟨rfl, fun d o w' hd hdeps hcl hS => ?_⟩
      have hS : SD2 w (.slice A5 q5 c5) ls w2.heap.size (w2.heap.size + 1) f g (d 4) (d 5) w' := hS
      rw [hd] at hS
      obtain ⟨x0, x1, x2, x3, x4, x5⟩ := hS.c3.six
      obtain ⟨z0, z1, z2, z3, z4, z5⟩ := hS.c3.fr6
      have H := Lib.hid hS.do3
      clear hS hdeps hcl
      unfold Oper.wp
      go_simp
      refine ⟨o, [], ⟨rfl, fun t ht => by cases ht⟩, ?_, rfl, by simp⟩
      exact H.out
    · refine ⟨rfl, fun d o w' hd hdeps hcl hS => ?_⟩
      have hS : SD2 w (.slice A5 q5 c5) ls w2.heap.size (w2.heap.size + 1) f g (d 4) (d 5) w' := hS
      rw [hd] at hS
      obtain ⟨x0, x1, x2, x3, x4, x5⟩ := hS.c4.six
      obtain ⟨z0, z1, z2, z3, z4, z5⟩ := hS.c4.fr6
      have H := Lib.hid hS.do4
      clear hS hdeps hcl
      unfold Oper.wp
      go_simp
      refine ⟨o, [], ⟨rfl, fun t ht => by cases ht⟩, ?_, rfl, by simp⟩
      exact H.out
  case hQ =>
  intro fl o we hall hS
  have hS : SD2 w (.slice A5 q5 c5) ls w2.heap.size (w2.heap.size + 1) f g (fl 4) (fl 5) we := hS
  rw [hall 4 (by decide), hall 5 (by decide)] at hS
  have k3 := hS.c3
  have k4 := hS.c4
  rw [if_pos rfl] at k3 k4
  obtain ⟨x0, x1, x2, x3, x4, x5⟩ := k3.six
  obtain ⟨y0, y1, y2, y3, y4, y5⟩ := k4.six
  have HR : Hid (RetD2 w (.returned (.tuple #[.slice A5 q5 c5, .agg (mc f), .agg (mc g)])) we) := ⟨A5, q5, c5, ls, f, g, rfl, Hq.out, hS.lst.mono (by omega), Hq7.out, hS.bel⟩
  clear hS hall k3 k4 S0
  go_wp2_with fail
  refine bodyPost_ret (v := .tuple #[.slice A5 q5 c5, .agg (mc f), .agg (mc g)]) ?_ rfl HR.out
  simp [results, Tryz.results58, go_sem, *]
structure SD3 (w0 : World) (s : Nat) (A : Option Addr) (n c : Nat) (zs : List Int) (v : Value) (ms : List M) (q6 q7 : Nat) (f g : M) (b4 b6 b7 : Bool) (w : World) : Prop where
  sd : SD2 w0 v ms q6 q7 f g b6 b7 w
  src : b4 = false → Src w s A n c zs
  low : w0.heap.size + 2 ≤ s
  lt : s < q6 ∧ s < q7
  nb : v.ownBlock ≠ some s
section
variable {w0 w w' : World} {s : Nat} {A : Option Addr} {n c : Nat} {zs : List Int} {v : Value} {ms : List M} {q6 q7 : Nat} {f g : M} {b4 b6 b7 : Bool}
theorem SD3.next (h : SD3 w0 s A n c zs v ms q6 q7 f g false b6 b7 w) (hs : Src w' s A n c zs) (hg : w.grownBy w' (some s)) (b4 : Bool) : SD3 w0 s A n c zs v ms q6 q7 f g b4 b6 b7 w' :=
  have hl := h.low
  have h6 := h.lt.1
  have h7 := h.lt.2
  ⟨⟨h.sd.bel.trans ((bel_s hg (Nat.le_of_lt (h.src rfl).lt)).mono (by omega)), h.sd.lst.keep (fun q hq => hg.block q (h.sd.lst.lt q hq).2 (fun e => h.nb (by rw [hq]; exact e))), h.sd.c3.grown hg (fun e => by injection e with e; omega), h.sd.c4.grown hg (fun e => by injection e with e; omega), h.sd.c6.grown hg (fun e => by injection e with e; omega), h.sd.c7.grown hg (fun e => by injection e with e; omega), h.sd.h6, h.sd.h7⟩, fun _ => hs, h.low, h.lt, h.nb⟩
theorem SD3.do6 (h : SD3 w0 s A n c zs v ms q6 q7 f g true false b7 w) : SD3 w0 s A n c zs v ms q6 q7 f g true true b7 (st6 w w0.heap.size f) :=
  ⟨h.sd.do3, by simp, h.low, h.lt, h.nb⟩
theorem SD3.do7 (h : SD3 w0 s A n c zs v ms q6 q7 f g true b6 false w) : SD3 w0 s A n c zs v ms q6 q7 f g true b6 true (st6 w (w0.heap.size + 1) g) :=
  ⟨h.sd.do4, by simp, h.low, h.lt, h.nb⟩
end
set_option maxHeartbeats 1000000 in
theorem DrawAreAlike_any {A : Option Addr} {n c : Nat} {zs : List Int} (w : World) (hx : RdU w w.heap.size A zs) (hn : zs.length = n) (hb : n < 4611686018427387904) :
    Calls Tryz.prog 48 #[.slice A n c] w (RetD3 w) := by
  obtain ⟨wa, hwa⟩ : ∃ wa, wa = (w.alloc (.cells (mc M0) 31)).alloc (.cells (mc M0) 31) := ⟨_, rfl⟩
  have hb0 : Below w.heap.size w wa := by rw [hwa]; exact ((Below.refl _ _).alloc (Nat.le_refl _) _).alloc (by simp) _
  have H3 : Hid (Blk wa w.heap.size 31 (mc M0)) := by show Blk _ _ _ _; rw [hwa]; exact (Blk.new w _ _).alloc _
  have H4 : Hid (Blk wa (w.heap.size + 1) 31 (mc M0)) := by show Blk _ _ _ _; rw [hwa]; exact Blk.new' _ _ _ (by simp)
  have hz0 : wa.heap.size = w.heap.size + 2 := by rw [hwa]; simp
  have HF := Lib.hid (from_any (A := A) (n := n) (c := c) wa ⟨Rd.more (hx.below hb0).1 (by omega), hx.2⟩ hn hb)
  have Hb0 := Lib.hid hb0
  have Hz0 := Lib.hid hz0
  rw [hwa] at HF
  clear hx hn hb hb0 hz0
  go_enter Tryz.func48, Tryz.ntmps48
  go_wp2_with fail
  refine HF.out.mono ?_
  rintro e w1 ⟨s, rfl, hs, hS1, hb1⟩
  rw [← hwa] at hs hb1
  rw [Hz0.out] at hs hb1
  clear hwa
  have HS1 := Lib.hid hS1
  have Hb1 := Lib.hid (Hb0.out.trans (hb1.mono (by omega)))
  have H31 := Lib.hid (H3.out.below hb1 (by omega))
  have H41 := Lib.hid (H4.out.below hb1 (by omega))
  have hz1 := hb1.size
  rw [Hz0.out] at hz1
  clear hS1 hb1 HF H3 H4 Hb0
  go_wp2_with fail
  refine (l03With_any w1 HS1.out).mono ?_
  rintro e w2 ⟨A5, q5, c5, ls, f, g, rfl, ho, hq, hq7, hS2, hg2⟩
  have Ho2 := Lib.hid (ho.mono hz1)
  have Hb2 := Lib.hid (Hb1.out.trans ((bel_s hg2 (Nat.le_of_lt HS1.out.lt)).mono (by omega)))
  have H32 := Lib.hid (H31.out.grown hg2 (fun e => by injection e with e; omega))
  have H42 := Lib.hid (H41.out.grown hg2 (fun e => by injection e with e; omega))
  have hz2 := hg2.size
  have Hq := Lib.hid hq
  have Hq7 := Lib.hid hq7
  have HS2 := Lib.hid hS2
  have Hnb := Lib.hid (ho.no HS1.out.lt)
  clear ho hS2 hg2 hq hq7 HS1 Hb1 H31 H41
  go_wp2_with fail
  have S0 : Hid (SD3 w s A n c zs (.slice A5 q5 c5) ls w2.heap.size (w2.heap.size + 1) f g false false false ((w2.alloc (.cells (mc f) 31)).alloc (.cells (mc g) 31))) :=
    ⟨⟨(Hb2.out.alloc (by omega) _).alloc (by simp; omega) _, (Ho2.out.alloc _).alloc _, (H32.out.alloc _).alloc _, (H42.out.alloc _).alloc _, (Blk.new w2 _ _).alloc _, Blk.new' _ _ _ (by simp), by omega, by omega⟩, fun _ => (HS2.out.alloc _).alloc _, hs, by have := HS2.out.lt; omega, Hnb.out⟩
  clear Ho2 Hb2 H32 H42 HS2
  refine wp_region_flags [] rfl (by kernel_rfl) (by kernel_rfl) [] (by kernel_rfl) _
    (fun o : Int => [.slice A5 q5 c5, .agg (mc f), .agg (mc g), .pointer (some ⟨s, 0, none⟩), I o, .slice A5 q5 c5, undef, undef, I o])
    (by intro o; simp only [putAll, List.setIfInBounds_toArray, List.set_cons_succ, List.set_cons_zero]; rfl)
    [] rfl _
    (by intro o; simp only [setAll, List.setIfInBounds_toArray, List.set_cons_succ, List.set_cons_zero]; rfl) (by kernel_rfl)
    (fun d o w' => SD3 w s A n c zs (.slice A5 q5 c5) ls w2.heap.size (w2.heap.size + 1) f g (d 4) (d 6) (d 7) w')
    0 (S0.out.next ((S0.out.src rfl).below (Below.refl _ _).drew) (grown_below (Below.refl _ _).drew _) false) ?hop ?hQ
  case hop =>
    refine ⟨?_, ?_, ?_, ?_, ?_, ?_, ?_, ?_, ?_, trivial⟩
    · refine ⟨rfl, Flag.pure (fun _ _ _ h => h) fun d c w' hd hdeps hcl hS => ?_⟩
      skip
      clear hS hdeps hcl hd
      unfold Oper.wp
      go_simp
      exact ⟨rfl, fun t ht => by injection ht with ht; subst ht; rfl, rfl⟩
    · refine ⟨rfl, Flag.pure (fun _ _ _ h => h) fun d c w' hd hdeps hcl hS => ?_⟩
      obtain ⟨x0, x1, x2, x3, x4, x5⟩ := hS.sd.c6.six
      clear hS hdeps hcl hd
      unfold Oper.wp
      go_simp
      exact ⟨rfl, fun t ht => by injection ht with ht; subst ht; rfl, rfl⟩
    · refine ⟨rfl, Flag.pure (fun _ _ _ h => h) fun d c w' hd hdeps hcl hS => ?_⟩
      obtain ⟨x0, x1, x2, x3, x4, x5⟩ := hS.sd.c7.six
      clear hS hdeps hcl hd
      unfold Oper.wp
      go_simp
      exact ⟨rfl, fun t ht => by injection ht with ht; subst ht; rfl, rfl⟩
    · refine ⟨rfl, Flag.pure (fun _ _ _ h => h) fun d c w' hd hdeps hcl hS => ?_⟩
      skip
      clear hS hdeps hcl hd
      unfold Oper.wp
      go_simp
      exact ⟨rfl, fun t ht => by injection ht with ht; subst ht; rfl, rfl⟩
    · refine ⟨rfl, fun d o w' hd hdeps hcl hS => ?_⟩
      have hS : SD3 w s A n c zs (.slice A5 q5 c5) ls w2.heap.size (w2.heap.size + 1) f g (d 4) (d 6) (d 7) w' := hS
      have d8 := hcl.down (k := 8) (j := 4) rfl (by kernel_rfl) hd
      rw [hd] at hS
      have H := Lib.hid hS
      clear hS hdeps hcl
      unfold Oper.wp
      go_simp
      refine (l01Near_any w' (H.out.src rfl)).mono ?_
      rintro e w6 ⟨r, rfl, hS6, hg6⟩
      refine ⟨r, [(22, I r), (5, I r)], ⟨rfl, fun t ht => by injection ht with ht; subst ht; rfl⟩, ?_, rfl, ?_⟩
      · exact H.out.next hS6 hg6 true
      · intro p hp
        simp at hp
        rcases hp with rfl | rfl
        · exact .inl rfl
        · exact .inr ⟨8, _, rfl, rfl, by decide, d8⟩
    · refine ⟨rfl, Flag.pure (fun _ _ _ h => h) fun d c w' hd hdeps hcl hS => ?_⟩
      skip
      clear hS hdeps hcl hd
      unfold Oper.wp
      go_simp
      exact ⟨rfl, fun t ht => by injection ht with ht; subst ht; rfl, rfl⟩
    · refine ⟨rfl, fun d o w' hd hdeps hcl hS => ?_⟩
      have hS : SD3 w s A n c zs (.slice A5 q5 c5) ls w2.heap.size (w2.heap.size + 1) f g (d 4) (d 6) (d 7) w' := hS
      have d5 := hdeps 5 (by kernel_rfl)
      have d4 := hcl.up (k := 5) (j := 4) rfl (by kernel_rfl) d5
      rw [hd, d4] at hS
      obtain ⟨x0, x1, x2, x3, x4, x5⟩ := hS.sd.c3.six
      obtain ⟨z0, z1, z2, z3, z4, z5⟩ := hS.sd.c3.fr6
      have H := Lib.hid hS.do6
      clear hS hdeps hcl
      unfold Oper.wp
      go_simp
      refine ⟨o, [], ⟨rfl, fun t ht => by cases ht⟩, ?_, rfl, by simp⟩
      show SD3 _ _ _ _ _ _ _ _ _ _ _ _ (d 4) _ _ _
      rw [d4]
      exact H.out
    · refine ⟨rfl, fun d o w' hd hdeps hcl hS => ?_⟩
      have hS : SD3 w s A n c zs (.slice A5 q5 c5) ls w2.heap.size (w2.heap.size + 1) f g (d 4) (d 6) (d 7) w' := hS
      have d5 := hdeps 5 (by kernel_rfl)
      have d4 := hcl.up (k := 5) (j := 4) rfl (by kernel_rfl) d5
      rw [hd, d4] at hS
      obtain ⟨x0, x1, x2, x3, x4, x5⟩ := hS.sd.c4.six
      obtain ⟨z0, z1, z2, z3, z4, z5⟩ := hS.sd.c4.fr6
      have H := Lib.hid hS.do7
      clear hS hdeps hcl
      unfold Oper.wp
      go_simp
      refine ⟨o, [], ⟨rfl, fun t ht => by cases ht⟩, ?_, rfl, by simp⟩
      show SD3 _ _ _ _ _ _ _ _ _ _ _ _ (d 4) _ _ _
      rw [d4]
      exact H.out
    · refine ⟨rfl, Flag.pure (fun _ _ _ h => h) fun d c w' hd hdeps hcl hS => ?_⟩
      skip
      clear hS hdeps hcl hd
      unfold Oper.wp
      go_simp
      exact ⟨rfl, fun t ht => by injection ht with ht; subst ht; rfl, rfl⟩
  case hQ =>
  intro fl o we hall hS
  have hS : SD3 w s A n c zs (.slice A5 q5 c5) ls w2.heap.size (w2.heap.size + 1) f g (fl 4) (fl 6) (fl 7) we := hS
  rw [hall 4 (by decide), hall 6 (by decide), hall 7 (by decide)] at hS
  have k3 := hS.sd.c3
  have k4 := hS.sd.c4
  rw [if_pos rfl] at k3 k4
  obtain ⟨x0, x1, x2, x3, x4, x5⟩ := k3.six
  obtain ⟨y0, y1, y2, y3, y4, y5⟩ := k4.six
  have HR : Hid (RetD3 w (.returned (.tuple #[.slice A5 q5 c5, .agg (mc f), .agg (mc g), I o])) we) := ⟨A5, q5, c5, ls, f, g, o, rfl, Hq.out, hS.sd.lst.mono (by omega), Hq7.out, hS.sd.bel⟩
  clear hS hall k3 k4 S0
  go_wp2_with fail
  refine bodyPost_ret (v := .tuple #[.slice A5 q5 c5, .agg (mc f), .agg (mc g), I o]) ?_ rfl HR.out
  simp [results, Tryz.results48, go_sem, *]
end Go.Proofs.YtkbfocoaobiijaaGreat

namespace Go.Proofs.YtkbfocoaobiijaaGreat
open Go.RowKit
set_option maxRecDepth 100000
set_option linter.unusedSimpArgs false
set_option linter.unusedVariables false
theorem any_gm {ms : List M} {k : Nat} (hk : k < ms.length) (h : isIdem (gm ms k) = true) : ms.any isIdem = true := List.any_eq_true.2 ⟨_, gm_mem hk, h⟩
theorem none_gm {ms : List M} (h : ∀ j, j < ms.length → isIdem (gm ms j) = false) : ms.any isIdem = false := by
  rw [Bool.eq_false_iff]
  intro e
  obtain ⟨x, hx, hi⟩ := List.any_eq_true.1 e
  obtain ⟨j, hj, rfl⟩ := mem_gm hx
  rw [h j hj] at hi
  cases hi
theorem indexIdem_any (A : Option Addr) (n c : Nat) (ms : List M) (w : World) (hx : RdM w w.heap.size A ms) (hn : ms.length = n) (hb : n < 1073741824) (hv : ∀ f ∈ ms, Valid f) :
    Calls Tryz.prog 234 #[.slice A n c, .func (.func 126) #[] #[]] w fun e w' => (∃ r : Int, e = .returned (I r) ∧ decide (0 ≤ r) = ms.any isIdem) ∧ Below w.heap.size w w' := by
  have eg : ∀ args w, (callFunc 126 args).run Tryz.prog w = .ok (.enter 126 args) w := enters_of Tryz.func126 (by kernel_rfl) rfl
  have Hx := Lib.hid hx
  have Hn := Lib.hid hn
  have HV := Lib.hid hv
  clear hx hn hv
  go_enter Tryz.func234, Tryz.ntmps234
  go_wp2_with fail
  go_loopw [8] (fun i wr => ∃ k : Nat, k ≤ n ∧ i = .int .i64 k ∧ Hid (∀ j, j < k → isIdem (gm ms j) = false) ∧ Below w.heap.size w wr) (fun i _ => n - (intOf i).toNat)
  case atStart => exact ⟨0, by omega, rfl, fun j hj => absurd hj (by omega), Below.refl _ _⟩
  case round =>
    obtain ⟨k, hk, rfl, hg, hbel⟩ := hrel
    have Hb := Lib.hid hbel
    have hsz := hbel.size
    clear hbel
    by_cases hlt : k < n
    · have hltz : (k : Int) < (n : Int) := by omega
      obtain ⟨b, off, rfl, hbb, h6⟩ := RdM.at_ (Rd.below Hx.out Hb.out) (k := k) (by rw [Hn.out]; exact hlt)
      have hvf : Valid (gm ms k) := HV.out _ (gm_mem (by rw [Hn.out]; exact hlt))
      obtain ⟨f, hf⟩ : ∃ f, f = gm ms k := ⟨_, rfl⟩
      rw [← hf] at h6 hvf
      have Hf := Lib.hid hf
      obtain ⟨x0, x1, x2, x3, x4, x5⟩ := h6
      clear hf
      go_wp2_with fail
      refine (isIdem_any f wr hvf).mono ?_
      rintro e w2 ⟨rfl, hb2⟩
      have Hb2 := Lib.hid (Hb.out.trans (hb2.mono hsz))
      clear hb2 x0 x1 x2 x3 x4 x5
      cases hp : isIdem f
      · have Hr : Hid (∀ j, j < k + 1 → isIdem (gm ms j) = false) := by
          intro j hj
          by_cases e : j = k
          · subst e; rw [← Hf.out]; exact hp
          · exact hg.out j (by omega)
        clear hp
        go_wp2_with fail
        go_roundw
        case rel => exact ⟨k + 1, by omega, by go_num, Hr.out, Hb2.out⟩
        case measure => simp [intOf]; omega
      · have Hr : Hid (ms.any isIdem = true) := any_gm (by rw [Hn.out]; exact hlt) (by rw [← Hf.out]; exact hp)
        clear hp
        go_wp2_with fail
        go_ret
        exact ⟨⟨k, rfl, by rw [Hr.out]; exact decide_eq_true (by omega)⟩, Hb2.out⟩
    · have hltz : ¬ ((k : Int) < (n : Int)) := by omega
      have Hr : Hid (ms.any isIdem = false) := none_gm fun j hj => hg.out j (by have := Hn.out; omega)
      go_wp2_with fail
      go_ret
      exact ⟨⟨-1, rfl, by rw [Hr.out]; rfl⟩, Hb.out⟩
theorem hasIdem_any (A : Option Addr) (n c : Nat) (ms : List M) (w : World) (hx : RdM w w.heap.size A ms) (hn : ms.length = n) (hb : n < 1073741824) (hv : ∀ f ∈ ms, Valid f) :
    Calls Tryz.prog 166 #[.slice A n c, .func (.func 126) #[] #[]] w fun e w' => e = .returned (.bool (ms.any isIdem)) ∧ Below w.heap.size w w' := by
  have Hx := Lib.hid hx
  have Hn := Lib.hid hn
  have HV := Lib.hid hv
  clear hx hn hv
  go_enter Tryz.func166, Tryz.ntmps166
  go_wp2_with fail
  refine (indexIdem_any A n c ms w Hx.out Hn.out hb HV.out).mono ?_
  rintro e w2 ⟨⟨r, rfl, hr⟩, hb2⟩
  have Hb := Lib.hid hb2
  have HR := Lib.hid hr
  clear hb2 hr
  go_wp2_with fail
  go_ret
  exact ⟨by rw [← HR.out] <;> rfl, Hb.out⟩
def gwL (E : List M) (p : Nat → Bool) (q : Nat) : List M := ((List.range q).filter p).map (gm E)
def gwG (E : List M) (p : Nat → Bool) (q : Nat) : Bool := (gwL E p q).any isIdem
theorem gwL_step (E : List M) (p : Nat → Bool) (q : Nat) : gwL E p (q + 1) = gwL E p q ++ (if p q then [gm E q] else []) := by
  unfold gwL
  rw [List.range_succ, List.filter_append, List.map_append]
  cases h : p q <;> simp [h]
theorem gwL_off {E : List M} {p : Nat → Bool} {q : Nat} (h : p q = false) : gwL E p (q + 1) = gwL E p q := by rw [gwL_step, h]; simp
theorem gwL_on {E : List M} {p : Nat → Bool} {q : Nat} (h : p q = true) : gwL E p (q + 1) = gwL E p q ++ [gm E q] := by rw [gwL_step, h]; rfl
theorem gwG_off {E : List M} {p : Nat → Bool} {q : Nat} (h : p q = false) : gwG E p (q + 1) = gwG E p q := by unfold gwG; rw [gwL_off h]
theorem gwG_on {E : List M} {p : Nat → Bool} {q : Nat} (h : p q = true) : gwG E p (q + 1) = (gwG E p q || isIdem (gm E q)) := by unfold gwG; rw [gwL_on h, List.any_append]; simp
theorem gwL_len (E : List M) (p : Nat → Bool) (q : Nat) : (gwL E p q).length ≤ q := by
  have h2 := List.length_filter_le p (List.range q)
  unfold gwL
  simp at h2 ⊢
  omega
theorem gwL_ok {E : List M} {p : Nat → Bool} {q : Nat} (hq : q ≤ E.length) : ∀ f ∈ gwL E p q, f ∈ E := fun f hf => by
  unfold gwL at hf
  obtain ⟨i, hi, rfl⟩ := List.mem_map.1 hf
  have := List.mem_range.1 (List.mem_filter.1 hi).1
  exact gm_mem (by omega)
def hP (E : List M) (x : Nat) (i : Nat) : Bool := sameK E 2 i x
def gwE (ms : List M) (f : M) : List M := gwL (elR ms [f]) (hP (elR ms [f]) (ix (elR ms [f]) f)) (elR ms [f]).length
def gwC (ms : List M) (f : M) : Int := if monC ms [f] = 0 then (if (gwE ms f).any isIdem then 0 else 5) else monC ms [f]
def gwR (ms : List M) (f : M) : List M := if gwC ms f = 0 then gwE ms f else []
theorem gwC_bad {ms : List M} {f : M} (h : monC ms [f] ≠ 0) : gwC ms f = monC ms [f] := if_neg h
theorem gwC_no {ms : List M} {f : M} (h : monC ms [f] = 0) (hi : (gwE ms f).any isIdem = false) : gwC ms f = 5 := by unfold gwC; rw [if_pos h, hi]; rfl
theorem gwC_yes {ms : List M} {f : M} (h : monC ms [f] = 0) (hi : (gwE ms f).any isIdem = true) : gwC ms f = 0 := by unfold gwC; rw [if_pos h, hi]; rfl
theorem gwR_bad {ms : List M} {f : M} (h : gwC ms f ≠ 0) : gwR ms f = [] := if_neg h
theorem gwR_len (ms : List M) (f : M) : (gwR ms f).length ≤ 300 := by
  unfold gwR
  split
  · refine Nat.le_trans (gwL_len _ _ _) ?_
    rename_i h
    unfold gwC at h
    split at h
    · rename_i h1
      obtain ⟨E, ps, hE, _⟩ := monC_el h1
      rw [hE.r]; exact hE.len
    · rename_i h1; exact absurd h h1
  · simp
set_option maxHeartbeats 2000000 in
theorem SpecGW_any (A : Option Addr) (n c : Nat) (ms : List M) (f : M) (w : World) (hx : RdM w w.heap.size A ms) (hn : ms.length = n) (hb : n < 1073741824) :
    Calls Tryz.prog 53 #[.slice A n c, .agg (mc f)] w (RetS (gwR ms f) (gwC ms f) w) := by
  obtain ⟨wb, hwb⟩ : ∃ wb, wb = (w.alloc (.cells (mc f) 31)).alloc (.cells (mc f) 31) := ⟨_, rfl⟩
  have hbb : Below w.heap.size w wb := by rw [hwb]; exact ((Below.refl _ _).alloc (Nat.le_refl _) _).alloc (by simp) _
  have h7 : RdM wb wb.heap.size (some ⟨w.heap.size + 1, 0, none⟩) [f] := by rw [hwb]; exact rd_one (Blk.six (Blk.new' _ _ _ (by simp)))
  have Hx := Lib.hid (Rd.more (Rd.below hx hbb) hbb.size)
  have Hn := Lib.hid hn
  have H7 := Lib.hid h7
  have Hbb := Lib.hid hbb
  have Hwb := Lib.hid hwb
  clear hx hn h7 hbb hwb
  by_cases hm : monC ms [f] = 0
  · obtain ⟨E, ps, hE, hin⟩ := monC_el hm
    have hfE := hin f (by simp)
    have hG : gR ms [f] = E := by unfold gR; rw [if_pos hm, hE.r]
    have hNN : gN ms [f] = [(ix E f : Int)] := by unfold gN; rw [if_pos hm, hE.r]; rfl
    have hlen := hE.len
    have hn6 := hE.n6
    obtain ⟨x, hxx⟩ : ∃ x, x = ix E f := ⟨_, rfl⟩
    have hxl : x < E.length := by rw [hxx]; exact ix_lt hfE
    rw [← hxx] at hNN
    obtain ⟨p, hp⟩ : ∃ p, p = hP E x := ⟨_, rfl⟩
    have hgE : gwE ms f = gwL E p E.length := by unfold gwE; rw [hE.r, ← hxx, hp]
    obtain ⟨N, hN⟩ : ∃ N, E.length = N := ⟨_, rfl⟩
    have hpv : ∀ i, i < N → ∀ a b, a = gi (clsK E 2) i → b = gi (clsK E 2) x → (a == b) = p i := fun i hi a b ha hb => by
      rw [Bool.eq_iff_iff, beq_iff_eq, ha, hb, hp]
      exact clsK_eq hE.mnd 2 (by rw [hN]; exact hi) hxl
    rw [hN] at hlen hxl hgE
    have HG := Lib.hid hG
    have HNN := Lib.hid hNN
    have HN := Lib.hid hN
    have HE := Lib.hid hE
    have Hm := Lib.hid hm
    have HgE := Lib.hid hgE
    have Hpv := Lib.hid hpv
    have hxz : (x : Int) < (N : Int) := by omega
    have hn6' : n ≤ 6 := by rw [← Hn.out]; exact hn6
    have HEv : Hid (∀ i, i < N → Valid (gm E i)) := fun i hi => (HE.out.mnd.ok _ (gm_mem (by rw [HN.out]; exact hi))).1
    clear hE hin hG hNN hxx hp hgE hpv hN hm hfE hn6
    go_enter Tryz.func53, Tryz.ntmps53
    go_wp2_with fail
    rw [← Hwb.out]
    refine (l03Given_any A (some ⟨w.heap.size + 1, 0, none⟩) n c 1 1 ms [f] wb Hx.out H7.out Hn.out rfl hb (by decide)).mono ?_
    rintro e w2 ⟨A', c', v, rfl, hr, hv, hb2⟩
    rw [HG.out] at hr ⊢
    rw [HNN.out] at hv
    rw [Hm.out, HN.out]
    obtain ⟨Av, cv, hvv, hrv⟩ := hv.form
    subst hvv
    obtain ⟨bv, ov, e, hbv, _⟩ := RdI.at_ hrv (k := 0) (by simp)
    subst e
    have C0 : Hid (w2.cell? ⟨bv, ov, none⟩ = some (I x)) := RdI.at0 hrv (k := 0) (by simp)
    have Hr := Lib.hid hr
    have Hb2 := Lib.hid hb2
    have hz2 := hb2.size
    simp only [List.length_cons, List.length_nil, Nat.zero_add]
    clear hr hv hrv hb2
    go_wp2_with fail
    refine (l03Kind_any A' N c' E A n c ms 2 rfl w2 Hr.out HN.out (Rd.more (Rd.below Hx.out Hb2.out) hz2) Hn.out hlen hn6' HE.out.mnd HE.out.mem HE.out.G).mono ?_
    rintro e w3 ⟨v, rfl, ho, hb3⟩
    obtain ⟨A3, c3, hv3, hr3⟩ := ho.form
    rw [clsK_length, HN.out] at hv3
    subst hv3
    obtain ⟨b3, o3, e, hb3l, _⟩ := RdI.at_ hr3 (k := x) (by rw [clsK_length, HN.out]; exact hxl)
    subst e
    have Hr3 := Lib.hid hr3
    have hbv3 : bv < w3.heap.size := Nat.lt_of_lt_of_le hbv hb3.size
    have C0' : Hid (w3.cell? ⟨bv, ov, none⟩ = some (I x)) := (hb3.cell (p := ⟨bv, ov, none⟩) hbv).trans C0.out
    have Hre := Lib.hid (Rd.more (Rd.below Hr.out hb3) hb3.size)
    have Hb3 := Lib.hid (Hb2.out.trans (hb3.mono hz2))
    have hz3 := Hb3.out.size
    clear ho hr3 hb3 Hr C0
    go_wp2_with fail
    go_loopw [10, 11, 12] (fun v g k wr => ∃ q : Nat, k = .int .i64 q ∧ q ≤ N ∧ g = .bool (gwG E p q) ∧ Below w3.heap.size w3 wr ∧ OwM 31 wr w3.heap.size v (gwL E p q)) (fun _ _ k _ => N - (intOf k).toNat)
    case atStart => exact ⟨0, rfl, by omega, rfl, (Below.refl _ _).alloc (Nat.le_refl _) _, OwM.made (Nat.le_refl _)⟩
    case round =>
      obtain ⟨q, rfl, hq, rfl, hb', ho⟩ := hrel
      have hql := gwL_len E p q
      obtain ⟨A1, c1, hv, _⟩ := ho.form
      obtain ⟨K, hK⟩ : ∃ K, (gwL E p q).length = K := ⟨_, rfl⟩
      rw [hK] at hv hql
      subst hv
      have HK := Lib.hid hK
      have Hbr := Lib.hid hb'
      have Ho := Lib.hid ho
      have hszr := hb'.size
      clear hb' ho hK
      by_cases hqN : q < N
      · have hqz : (q : Int) < (N : Int) := by omega
        obtain ⟨a, ha⟩ : ∃ a, a = gi (clsK E 2) q := ⟨_, rfl⟩
        obtain ⟨b, hb5⟩ : ∃ b, b = gi (clsK E 2) x := ⟨_, rfl⟩
        obtain ⟨t, ht⟩ : ∃ t, t = p q := ⟨_, rfl⟩
        have hab : (a == b) = t := by rw [ht]; exact Hpv.out q hqN a b ha hb5
        have HF4 : Hid (∀ w', Below wr.heap.size wr w' → w'.cell? ⟨bv, ov, none⟩ = some (I x) ∧ w'.cell? ⟨b3, o3 + q, none⟩ = some (I a) ∧ w'.cell? ⟨b3, o3 + x, none⟩ = some (I b)) := fun w' hS => by
          have hB := Hbr.out.trans (hS.mono hszr)
          rw [ha, hb5]
          exact ⟨(hB.cell (p := ⟨bv, ov, none⟩) hbv3).trans C0'.out, RdI.at0 (Rd.below Hr3.out hB) (by rw [clsK_length, HN.out]; exact hqN), RdI.at0 (Rd.below Hr3.out hB) (by rw [clsK_length, HN.out]; exact hxl)⟩
        clear ha hb5
        go_wp2_with fail
        refine wp_region_same [] rfl (by kernel_rfl) (by kernel_rfl) (by kernel_rfl) (fun w' => Below wr.heap.size wr w') _
          [.slice (some ⟨b3, o3, none⟩) N c3, I q, .pointer (some ⟨b3, o3 + q, none⟩), I a, .slice (some ⟨b3, o3, none⟩) N c3, .slice (some ⟨bv, ov, none⟩) 1 cv, .pointer (some ⟨bv, ov, none⟩), I x, .pointer (some ⟨b3, o3 + x, none⟩), I b, .bool t]
          (by simp only [putAll, List.setIfInBounds_toArray, List.set_cons_succ, List.set_cons_zero]; rfl) (Below.refl _ _).drew ?hop ?hQ
        case hop =>
          refine FixBL.toL (fun w' w'' hS hb => hS.trans (hb.mono hS.size)) _ _ ?_
          refine ⟨.inr ?_, .inr ?_, .inr ?_, .inr ?_, .inr ?_, .inr ?_, .inr ?_, .inr ?_, .inr ?_, .inr ?_, .inr ?_, trivial⟩
          · (with_reducible refine FixB.of ?_ ?_; rfl; intro w' hS; obtain ⟨s0, s1, s2⟩ := HF4.out _ hS; clear hS; unfold Oper.wp; go_simp; first | done | exact Below.refl _ _)
          · (with_reducible refine FixB.of ?_ ?_; rfl; intro w' hS; obtain ⟨s0, s1, s2⟩ := HF4.out _ hS; clear hS; unfold Oper.wp; go_simp; first | done | exact Below.refl _ _)
          · (with_reducible refine FixB.of ?_ ?_; rfl; intro w' hS; obtain ⟨s0, s1, s2⟩ := HF4.out _ hS; clear hS; unfold Oper.wp; go_simp; first | done | exact Below.refl _ _)
          · (with_reducible refine FixB.of ?_ ?_; rfl; intro w' hS; obtain ⟨s0, s1, s2⟩ := HF4.out _ hS; clear hS; unfold Oper.wp; go_simp; first | done | exact Below.refl _ _)
          · (with_reducible refine FixB.of ?_ ?_; rfl; intro w' hS; obtain ⟨s0, s1, s2⟩ := HF4.out _ hS; clear hS; unfold Oper.wp; go_simp; first | done | exact Below.refl _ _)
          · (with_reducible refine FixB.of ?_ ?_; rfl; intro w' hS; obtain ⟨s0, s1, s2⟩ := HF4.out _ hS; clear hS; unfold Oper.wp; go_simp; first | done | exact Below.refl _ _)
          · (with_reducible refine FixB.of ?_ ?_; rfl; intro w' hS; obtain ⟨s0, s1, s2⟩ := HF4.out _ hS; clear hS; unfold Oper.wp; go_simp; first | done | exact Below.refl _ _)
          · (with_reducible refine FixB.of ?_ ?_; rfl; intro w' hS; obtain ⟨s0, s1, s2⟩ := HF4.out _ hS; clear hS; unfold Oper.wp; go_simp; first | done | exact Below.refl _ _)
          · (with_reducible refine FixB.of ?_ ?_; rfl; intro w' hS; obtain ⟨s0, s1, s2⟩ := HF4.out _ hS; clear hS; unfold Oper.wp; go_simp; first | done | exact Below.refl _ _)
          · (with_reducible refine FixB.of ?_ ?_; rfl; intro w' hS; obtain ⟨s0, s1, s2⟩ := HF4.out _ hS; clear hS; unfold Oper.wp; go_simp; first | done | exact Below.refl _ _)
          · (with_reducible refine FixB.of ?_ ?_; rfl; intro w' hS; obtain ⟨s0, s1, s2⟩ := HF4.out _ hS; clear hS; unfold Oper.wp; go_simp; first | done | exact Below.refl _ _)
        case hQ =>
        intro wc hS _
        have HB4 := Lib.hid hS
        clear hS
        have Hb4 := Lib.hid (Hbr.out.trans (HB4.out.mono hszr))
        have Ho4 := Lib.hid (Ho.out.below HB4.out (Nat.le_refl _))
        have hz4 := Hb4.out.size
        clear HB4 HF4 hab Ho Hbr
        cases t
        · have HL : Hid (gwL E p (q + 1) = gwL E p q) := gwL_off ht.symm
          have HG2 : Hid (gwG E p (q + 1) = gwG E p q) := gwG_off ht.symm
          clear ht
          go_wp2_with fail
          go_roundw
          case rel => exact ⟨q + 1, by go_num, by omega, by rw [HG2.out], Hb4.out, by rw [HL.out]; exact Ho4.out⟩
          case measure => simp [intOf]; omega
        · obtain ⟨z, hzz⟩ : ∃ z, z = gm E q := ⟨_, rfl⟩
          have HL : Hid (gwL E p (q + 1) = gwL E p q ++ [z]) := by show _ = _; rw [gwL_on ht.symm, hzz]
          have HG2 : Hid (gwG E p (q + 1) = (gwG E p q || isIdem z)) := by show _ = _; rw [gwG_on ht.symm, hzz]
          have hvz : Valid z := by rw [hzz]; exact HEv.out q hqN
          obtain ⟨b6, o6, rfl, hb6, h6⟩ := RdM.at_ (Rd.below Hre.out Hb4.out) (k := q) (by rw [HN.out]; exact hqN)
          rw [← hzz] at h6
          have Hzz := Lib.hid hzz
          obtain ⟨x0, x1, x2, x3, x4, x5⟩ := h6
          clear ht hzz
          cases hgq : gwG E p q
          · rw [hgq] at HG2
            go_wp2_with (at_builtin; refine wpList_pushM rfl (.tmp 45) (.tmp 50) rfl w3.heap.size (.slice A1 K c1) (gwL E p q) rfl (Ho4.out.alloc _) K HK.out wc.heap.size 1 z rfl (Blk.six (Blk.new _ _ _)) (by omega) (by simp; omega) (wc.heap.size + 1) (by simp) ?_; intro g' cap w5 ho' hgr hg' hlt'; have Hb5 := Lib.hid ((Ho4.out.alloc (.cells (mc z) 31)).bel (Hb4.out.alloc (by omega) _) hgr (Nat.le_refl _) (by simp; omega)); have Ho5 := Lib.hid ho'; have s6 := (RdM.six (Rd.below Hre.out Hb5.out) (k := q) (by rw [HN.out]; exact hqN)).1; rw [← Hzz.out] at s6; obtain ⟨y0, y1, y2, y3, y4, y5⟩ := s6; clear ho' hgr hg' hlt' x0 x1 x2 x3 x4 x5)
            refine (l01Idem_any z w5 hvz).mono ?_
            rintro e w6 ⟨rfl, hb6'⟩
            have Hb6 := Lib.hid (Hb5.out.trans (hb6'.mono Hb5.out.size))
            have Ho6 := Lib.hid (Ho5.out.below hb6' (Nat.le_refl _))
            clear hb6' y0 y1 y2 y3 y4 y5
            go_wp2_with fail
            refine ⟨⟨q + 1, by go_num, by omega, by rw [HG2.out, Bool.false_or], Hb6.out, by rw [HL.out]; exact Ho6.out⟩, by simp [intOf]; omega⟩
          · rw [hgq] at HG2
            go_wp2_with (at_builtin; refine wpList_pushM rfl (.tmp 45) (.tmp 50) rfl w3.heap.size (.slice A1 K c1) (gwL E p q) rfl (Ho4.out.alloc _) K HK.out wc.heap.size 1 z rfl (Blk.six (Blk.new _ _ _)) (by omega) (by simp; omega) (wc.heap.size + 1) (by simp) ?_; intro g' cap w5 ho' hgr hg' hlt'; have Hb5 := Lib.hid ((Ho4.out.alloc (.cells (mc z) 31)).bel (Hb4.out.alloc (by omega) _) hgr (Nat.le_refl _) (by simp; omega)); have Ho5 := Lib.hid ho'; have s6 := (RdM.six (Rd.below Hre.out Hb5.out) (k := q) (by rw [HN.out]; exact hqN)).1; rw [← Hzz.out] at s6; obtain ⟨y0, y1, y2, y3, y4, y5⟩ := s6; clear ho' hgr hg' hlt' x0 x1 x2 x3 x4 x5)
            refine ⟨⟨q + 1, by go_num, by omega, by rw [HG2.out, Bool.true_or], Hb5.out, by rw [HL.out]; exact Ho5.out⟩, by simp [intOf]; omega⟩
      · obtain rfl : q = N := by omega
        have hqz : ¬ ((q : Int) < (q : Int)) := by omega
        have HgE2 : Hid (gwG E p q = (gwE ms f).any isIdem) := by show _ = _; rw [HgE.out]; rfl
        have Hro := Lib.hid Ho.out.rdA
        have Hbe := Lib.hid (Hbb.out.trans ((Hb3.out.trans (Hbr.out.mono hz3)).mono Hbb.out.size))
        cases hgq : gwG E p q
        · rw [hgq] at HgE2
          have hC := gwC_no Hm.out HgE2.out.symm
          have HR := Lib.hid (gwR_bad (ms := ms) (f := f) (by rw [hC]; decide))
          have HC := Lib.hid hC
          clear hC
          go_wp2_with fail
          go_ret2
          exact .mk none 0 (by rw [HR.out, HC.out] <;> rfl) (by rw [HR.out]; exact Rd.nil_) Hbe.out
        · rw [hgq] at HgE2
          have hC := gwC_yes Hm.out HgE2.out.symm
          have HR : Hid (gwR ms f = gwL E p q) := by show _ = _; unfold gwR; rw [if_pos hC, HgE.out]
          have HC := Lib.hid hC
          clear hC
          go_wp2_with fail
          go_ret2
          exact .mk A1 c1 (by rw [HR.out, HC.out, HK.out] <;> rfl) (by rw [HR.out]; exact Hro.out) Hbe.out
  · have hC := gwC_bad hm
    have hR := gwR_bad (ms := ms) (f := f) (by rw [hC]; exact hm)
    have hne : (monC ms [f] != 0) = true := by simpa using hm
    have HR := Lib.hid hR
    have HC := Lib.hid hC
    clear hR hC hm
    go_enter Tryz.func53, Tryz.ntmps53
    go_wp2_with fail
    rw [← Hwb.out]
    refine (l03Given_any A (some ⟨w.heap.size + 1, 0, none⟩) n c 1 1 ms [f] wb Hx.out H7.out Hn.out rfl hb (by decide)).mono ?_
    rintro e w2 ⟨A', c', v, rfl, hr, hv, hb2⟩
    obtain ⟨Av, cv, hvv, _⟩ := hv.form
    subst hvv
    have Hbe := Lib.hid (Hbb.out.trans (hb2.mono Hbb.out.size))
    clear hr hv hb2
    go_wp2_with fail
    go_ret2
    exact .mk none 0 (by rw [HR.out, HC.out] <;> rfl) (by rw [HR.out]; exact Rd.nil_) Hbe.out
end Go.Proofs.YtkbfocoaobiijaaGreat

namespace Go.Proofs.YtkbfocoaobiijaaGreat
open Go.RowKit
set_option maxRecDepth 100000
set_option linter.unusedSimpArgs false
set_option linter.unusedVariables false
theorem gw1_any {n : Int} {d b1 b2 bv ov cv x i : Nat} {E : List M} (w : World) (hI : IdeAt w d E) (hE : E.length ≤ 300) (hm : Mnd n E) (hi : i < E.length) (hx : x < E.length)
    (C1 : w.cell? ⟨b1, 0, none⟩ = some (.pointer (some ⟨d, 0, none⟩))) (C2 : w.cell? ⟨b2, 0, none⟩ = some (.slice (some ⟨bv, ov, none⟩) 1 cv)) (C4 : w.cell? ⟨bv, ov, none⟩ = some (I x)) :
    Calls Tryz.prog 165 #[I i, .pointer (some ⟨b1, 0, none⟩), .pointer (some ⟨b2, 0, none⟩)] w fun e w' => e = .returned (.bool (sameK E 2 i x)) ∧ Below w.heap.size w w' := by
  have l1 := World.block_lt_of_cell? w ⟨b1, 0, none⟩ C1
  have l2 := World.block_lt_of_cell? w ⟨b2, 0, none⟩ C2
  have l4 := World.block_lt_of_cell? w ⟨bv, ov, none⟩ C4
  obtain ⟨s, hs⟩ : ∃ s, s = sameK E 2 i x := ⟨_, rfl⟩
  have Hs : Hid (sameK E 2 i x = s) := hs.symm
  have D1 := Lib.hid C1
  have D2 := Lib.hid C2
  have D4 := Lib.hid C4
  have HI := Lib.hid hI
  have Hm := Lib.hid hm
  rw [← hs]
  clear hI C1 C2 C4 hs hm
  go_enter Tryz.func165, Tryz.ntmps165
  go_wp2_with fail
  refine wp_region_same [] rfl (by kernel_rfl) (by kernel_rfl) (by kernel_rfl) (fun w' => Below w.heap.size w w') _
    [.pointer (some ⟨d, 0, none⟩), I i, .slice (some ⟨bv, ov, none⟩) 1 cv, .pointer (some ⟨bv, ov, none⟩), I x, .bool s, .bool s]
    (by simp only [putAll, List.setIfInBounds_toArray, List.set_cons_succ, List.set_cons_zero]; rfl) (Below.refl _ _).drew ?hop ?hQ
  case hop =>
    refine FixBL.toL (fun w' w'' hS hb => hS.trans (hb.mono hS.size)) _ _ ?_
    refine ⟨.inr ?_, .inr ?_, .inr ?_, .inr ?_, .inr ?_, .inr ?_, .inr ?_, trivial⟩
    · (with_reducible refine FixB.of ?_ ?_; rfl; intro w' hS; have s0 := (hS.cell (p := ⟨b1, 0, none⟩) l1).trans D1.out; have s1 := (hS.cell (p := ⟨b2, 0, none⟩) l2).trans D2.out; have s2 := (hS.cell (p := ⟨bv, ov, none⟩) l4).trans D4.out; clear hS; unfold Oper.wp; go_simp; first | done | exact Below.refl _ _)
    · (with_reducible refine FixB.of ?_ ?_; rfl; intro w' hS; have s0 := (hS.cell (p := ⟨b1, 0, none⟩) l1).trans D1.out; have s1 := (hS.cell (p := ⟨b2, 0, none⟩) l2).trans D2.out; have s2 := (hS.cell (p := ⟨bv, ov, none⟩) l4).trans D4.out; clear hS; unfold Oper.wp; go_simp; first | done | exact Below.refl _ _)
    · (with_reducible refine FixB.of ?_ ?_; rfl; intro w' hS; have s0 := (hS.cell (p := ⟨b1, 0, none⟩) l1).trans D1.out; have s1 := (hS.cell (p := ⟨b2, 0, none⟩) l2).trans D2.out; have s2 := (hS.cell (p := ⟨bv, ov, none⟩) l4).trans D4.out; clear hS; unfold Oper.wp; go_simp; first | done | exact Below.refl _ _)
    · (with_reducible refine FixB.of ?_ ?_; rfl; intro w' hS; have s0 := (hS.cell (p := ⟨b1, 0, none⟩) l1).trans D1.out; have s1 := (hS.cell (p := ⟨b2, 0, none⟩) l2).trans D2.out; have s2 := (hS.cell (p := ⟨bv, ov, none⟩) l4).trans D4.out; clear hS; unfold Oper.wp; go_simp; first | done | exact Below.refl _ _)
    · (with_reducible refine FixB.of ?_ ?_; rfl; intro w' hS; have s0 := (hS.cell (p := ⟨b1, 0, none⟩) l1).trans D1.out; have s1 := (hS.cell (p := ⟨b2, 0, none⟩) l2).trans D2.out; have s2 := (hS.cell (p := ⟨bv, ov, none⟩) l4).trans D4.out; clear hS; unfold Oper.wp; go_simp; first | done | exact Below.refl _ _)
    · (with_reducible refine FixB.of ?_ ?_; rfl; intro w' hS; have s3 := Lib.hid hS; unfold Oper.wp; clear hS; go_simp; refine ((Hs.out ▸ alike_any (kind := 2) _ (HI.out.below s3.out (Nat.le_refl _)) hE Hm.out hi hx)).mono ?_; rintro e w1 ⟨rfl, hb⟩; exact ⟨rfl, hb⟩)
    · (with_reducible refine FixB.of ?_ ?_; rfl; intro w' hS; have s0 := (hS.cell (p := ⟨b1, 0, none⟩) l1).trans D1.out; have s1 := (hS.cell (p := ⟨b2, 0, none⟩) l2).trans D2.out; have s2 := (hS.cell (p := ⟨bv, ov, none⟩) l4).trans D4.out; clear hS; unfold Oper.wp; go_simp; first | done | exact Below.refl _ _)
  case hQ =>
  intro wc hS _
  have HB2 := Lib.hid hS
  clear hS
  go_wp2
  go_ret
  exact ⟨rfl, HB2.out⟩
theorem gr1_any {n : Int} {d b1 b2 bv ov cv x i : Nat} {E : List M} (w : World) (hI : IdeAt w d E) (hE : E.length ≤ 300) (hm : Mnd n E) (hi : i < E.length) (hx : x < E.length)
    (C1 : w.cell? ⟨b1, 0, none⟩ = some (.pointer (some ⟨d, 0, none⟩))) (C2 : w.cell? ⟨b2, 0, none⟩ = some (.slice (some ⟨bv, ov, none⟩) 1 cv)) (C4 : w.cell? ⟨bv, ov, none⟩ = some (I x)) :
    Calls Tryz.prog 156 #[I i, .pointer (some ⟨b1, 0, none⟩), .pointer (some ⟨b2, 0, none⟩)] w fun e w' => e = .returned (.bool (sameK E 3 i x)) ∧ Below w.heap.size w w' := by
  have l1 := World.block_lt_of_cell? w ⟨b1, 0, none⟩ C1
  have l2 := World.block_lt_of_cell? w ⟨b2, 0, none⟩ C2
  have l4 := World.block_lt_of_cell? w ⟨bv, ov, none⟩ C4
  obtain ⟨s, hs⟩ : ∃ s, s = sameK E 3 i x := ⟨_, rfl⟩
  have Hs : Hid (sameK E 3 i x = s) := hs.symm
  have D1 := Lib.hid C1
  have D2 := Lib.hid C2
  have D4 := Lib.hid C4
  have HI := Lib.hid hI
  have Hm := Lib.hid hm
  rw [← hs]
  clear hI C1 C2 C4 hs hm
  go_enter Tryz.func156, Tryz.ntmps156
  go_wp2_with fail
  refine wp_region_same [] rfl (by kernel_rfl) (by kernel_rfl) (by kernel_rfl) (fun w' => Below w.heap.size w w') _
    [.pointer (some ⟨d, 0, none⟩), I i, .slice (some ⟨bv, ov, none⟩) 1 cv, .pointer (some ⟨bv, ov, none⟩), I x, .bool s, .bool s]
    (by simp only [putAll, List.setIfInBounds_toArray, List.set_cons_succ, List.set_cons_zero]; rfl) (Below.refl _ _).drew ?hop ?hQ
  case hop =>
    refine FixBL.toL (fun w' w'' hS hb => hS.trans (hb.mono hS.size)) _ _ ?_
    refine ⟨.inr ?_, .inr ?_, .inr ?_, .inr ?_, .inr ?_, .inr ?_, .inr ?_, trivial⟩
    · (with_reducible refine FixB.of ?_ ?_; rfl; intro w' hS; have s0 := (hS.cell (p := ⟨b1, 0, none⟩) l1).trans D1.out; have s1 := (hS.cell (p := ⟨b2, 0, none⟩) l2).trans D2.out; have s2 := (hS.cell (p := ⟨bv, ov, none⟩) l4).trans D4.out; clear hS; unfold Oper.wp; go_simp; first | done | exact Below.refl _ _)
    · (with_reducible refine FixB.of ?_ ?_; rfl; intro w' hS; have s0 := (hS.cell (p := ⟨b1, 0, none⟩) l1).trans D1.out; have s1 := (hS.cell (p := ⟨b2, 0, none⟩) l2).trans D2.out; have s2 := (hS.cell (p := ⟨bv, ov, none⟩) l4).trans D4.out; clear hS; unfold Oper.wp; go_simp; first | done | exact Below.refl _ _)
    · (with_reducible refine FixB.of ?_ ?_; rfl; intro w' hS; have s0 := (hS.cell (p := ⟨b1, 0, none⟩) l1).trans D1.out; have s1 := (hS.cell (p := ⟨b2, 0, none⟩) l2).trans D2.out; have s2 := (hS.cell (p := ⟨bv, ov, none⟩) l4).trans D4.out; clear hS; unfold Oper.wp; go_simp; first | done | exact Below.refl _ _)
    · (with_reducible refine FixB.of ?_ ?_; rfl; intro w' hS; have s0 := (hS.cell (p := ⟨b1, 0, none⟩) l1).trans D1.out; have s1 := (hS.cell (p := ⟨b2, 0, none⟩) l2).trans D2.out; have s2 := (hS.cell (p := ⟨bv, ov, none⟩) l4).trans D4.out; clear hS; unfold Oper.wp; go_simp; first | done | exact Below.refl _ _)
    · (with_reducible refine FixB.of ?_ ?_; rfl; intro w' hS; have s0 := (hS.cell (p := ⟨b1, 0, none⟩) l1).trans D1.out; have s1 := (hS.cell (p := ⟨b2, 0, none⟩) l2).trans D2.out; have s2 := (hS.cell (p := ⟨bv, ov, none⟩) l4).trans D4.out; clear hS; unfold Oper.wp; go_simp; first | done | exact Below.refl _ _)
    · (with_reducible refine FixB.of ?_ ?_; rfl; intro w' hS; have s3 := Lib.hid hS; unfold Oper.wp; clear hS; go_simp; refine ((Hs.out ▸ alike_any (kind := 3) _ (HI.out.below s3.out (Nat.le_refl _)) hE Hm.out hi hx)).mono ?_; rintro e w1 ⟨rfl, hb⟩; exact ⟨rfl, hb⟩)
    · (with_reducible refine FixB.of ?_ ?_; rfl; intro w' hS; have s0 := (hS.cell (p := ⟨b1, 0, none⟩) l1).trans D1.out; have s1 := (hS.cell (p := ⟨b2, 0, none⟩) l2).trans D2.out; have s2 := (hS.cell (p := ⟨bv, ov, none⟩) l4).trans D4.out; clear hS; unfold Oper.wp; go_simp; first | done | exact Below.refl _ _)
  case hQ =>
  intro wc hS _
  have HB2 := Lib.hid hS
  clear hS
  go_wp2
  go_ret
  exact ⟨rfl, HB2.out⟩
theorem gr2_any {n : Int} {d b1 b2 bv ov cv x i : Nat} {E : List M} (w : World) (hI : IdeAt w d E) (hE : E.length ≤ 300) (hm : Mnd n E) (hi : i < E.length) (hx : x < E.length)
    (C1 : w.cell? ⟨b1, 0, none⟩ = some (.pointer (some ⟨d, 0, none⟩))) (C2 : w.cell? ⟨b2, 0, none⟩ = some (.slice (some ⟨bv, ov, none⟩) 1 cv)) (C4 : w.cell? ⟨bv, ov, none⟩ = some (I x)) :
    Calls Tryz.prog 159 #[I i, .pointer (some ⟨b1, 0, none⟩), .pointer (some ⟨b2, 0, none⟩)] w fun e w' => e = .returned (.bool (sameK E 2 i x)) ∧ Below w.heap.size w w' := by
  have l1 := World.block_lt_of_cell? w ⟨b1, 0, none⟩ C1
  have l2 := World.block_lt_of_cell? w ⟨b2, 0, none⟩ C2
  have l4 := World.block_lt_of_cell? w ⟨bv, ov, none⟩ C4
  obtain ⟨s, hs⟩ : ∃ s, s = sameK E 2 i x := ⟨_, rfl⟩
  have Hs : Hid (sameK E 2 i x = s) := hs.symm
  have D1 := Lib.hid C1
  have D2 := Lib.hid C2
  have D4 := Lib.hid C4
  have HI := Lib.hid hI
  have Hm := Lib.hid hm
  rw [← hs]
  clear hI C1 C2 C4 hs hm
  go_enter Tryz.func159, Tryz.ntmps159
  go_wp2_with fail
  refine wp_region_same [] rfl (by kernel_rfl) (by kernel_rfl) (by kernel_rfl) (fun w' => Below w.heap.size w w') _
    [.pointer (some ⟨d, 0, none⟩), I i, .slice (some ⟨bv, ov, none⟩) 1 cv, .pointer (some ⟨bv, ov, none⟩), I x, .bool s, .bool s]
    (by simp only [putAll, List.setIfInBounds_toArray, List.set_cons_succ, List.set_cons_zero]; rfl) (Below.refl _ _).drew ?hop ?hQ
  case hop =>
    refine FixBL.toL (fun w' w'' hS hb => hS.trans (hb.mono hS.size)) _ _ ?_
    refine ⟨.inr ?_, .inr ?_, .inr ?_, .inr ?_, .inr ?_, .inr ?_, .inr ?_, trivial⟩
    · (with_reducible refine FixB.of ?_ ?_; rfl; intro w' hS; have s0 := (hS.cell (p := ⟨b1, 0, none⟩) l1).trans D1.out; have s1 := (hS.cell (p := ⟨b2, 0, none⟩) l2).trans D2.out; have s2 := (hS.cell (p := ⟨bv, ov, none⟩) l4).trans D4.out; clear hS; unfold Oper.wp; go_simp; first | done | exact Below.refl _ _)
    · (with_reducible refine FixB.of ?_ ?_; rfl; intro w' hS; have s0 := (hS.cell (p := ⟨b1, 0, none⟩) l1).trans D1.out; have s1 := (hS.cell (p := ⟨b2, 0, none⟩) l2).trans D2.out; have s2 := (hS.cell (p := ⟨bv, ov, none⟩) l4).trans D4.out; clear hS; unfold Oper.wp; go_simp; first | done | exact Below.refl _ _)
    · (with_reducible refine FixB.of ?_ ?_; rfl; intro w' hS; have s0 := (hS.cell (p := ⟨b1, 0, none⟩) l1).trans D1.out; have s1 := (hS.cell (p := ⟨b2, 0, none⟩) l2).trans D2.out; have s2 := (hS.cell (p := ⟨bv, ov, none⟩) l4).trans D4.out; clear hS; unfold Oper.wp; go_simp; first | done | exact Below.refl _ _)
    · (with_reducible refine FixB.of ?_ ?_; rfl; intro w' hS; have s0 := (hS.cell (p := ⟨b1, 0, none⟩) l1).trans D1.out; have s1 := (hS.cell (p := ⟨b2, 0, none⟩) l2).trans D2.out; have s2 := (hS.cell (p := ⟨bv, ov, none⟩) l4).trans D4.out; clear hS; unfold Oper.wp; go_simp; first | done | exact Below.refl _ _)
    · (with_reducible refine FixB.of ?_ ?_; rfl; intro w' hS; have s0 := (hS.cell (p := ⟨b1, 0, none⟩) l1).trans D1.out; have s1 := (hS.cell (p := ⟨b2, 0, none⟩) l2).trans D2.out; have s2 := (hS.cell (p := ⟨bv, ov, none⟩) l4).trans D4.out; clear hS; unfold Oper.wp; go_simp; first | done | exact Below.refl _ _)
    · (with_reducible refine FixB.of ?_ ?_; rfl; intro w' hS; have s3 := Lib.hid hS; unfold Oper.wp; clear hS; go_simp; refine ((Hs.out ▸ alike_any (kind := 2) _ (HI.out.below s3.out (Nat.le_refl _)) hE Hm.out hi hx)).mono ?_; rintro e w1 ⟨rfl, hb⟩; exact ⟨rfl, hb⟩)
    · (with_reducible refine FixB.of ?_ ?_; rfl; intro w' hS; have s0 := (hS.cell (p := ⟨b1, 0, none⟩) l1).trans D1.out; have s1 := (hS.cell (p := ⟨b2, 0, none⟩) l2).trans D2.out; have s2 := (hS.cell (p := ⟨bv, ov, none⟩) l4).trans D4.out; clear hS; unfold Oper.wp; go_simp; first | done | exact Below.refl _ _)
  case hQ =>
  intro wc hS _
  have HB2 := Lib.hid hS
  clear hS
  go_wp2
  go_ret
  exact ⟨rfl, HB2.out⟩
set_option maxHeartbeats 2000000 in
theorem ImplGW_any (A : Option Addr) (n c : Nat) (ms : List M) (f : M) (w : World) (hx : RdM w w.heap.size A ms) (hn : ms.length = n) (hA : A = none → n = 0 ∧ c = 0) (hb : n < 536870912) :
    Calls Tryz.prog 52 #[.slice A n c, .agg (mc f)] w (RetM (gwR ms f) (gwC ms f) w) := by
  obtain ⟨wb, hwb⟩ : ∃ wb, wb = (w.alloc (.cells (mc f) 31)).alloc (.cells (mc f) 31) := ⟨_, rfl⟩
  have hbb : Below w.heap.size w wb := by rw [hwb]; exact ((Below.refl _ _).alloc (Nat.le_refl _) _).alloc (by simp) _
  have h7 : RdM wb wb.heap.size (some ⟨w.heap.size + 1, 0, none⟩) [f] := by rw [hwb]; exact rd_one (Blk.six (Blk.new' _ _ _ (by simp)))
  have Hx := Lib.hid (Rd.more (Rd.below hx hbb) hbb.size)
  have Hn := Lib.hid hn
  have HA := Lib.hid hA
  have H7 := Lib.hid h7
  have Hbb := Lib.hid hbb
  have Hwb := Lib.hid hwb
  clear hx hn hA h7 hbb hwb
  by_cases hc : monC ms [f] = 0
  · obtain ⟨E, ps, hE, hin⟩ := monC_el hc
    have hfE := hin f (by simp)
    have hlen := hE.len
    obtain ⟨x, hxx⟩ : ∃ x, x = ix E f := ⟨_, rfl⟩
    have hxl : x < E.length := by rw [hxx]; exact ix_lt hfE
    have hgE : gwE ms f = gwL E (hP E x) E.length := by unfold gwE; rw [hE.r, ← hxx]
    have Hxx := Lib.hid hxx
    have HE := Lib.hid hE
    have Hc := Lib.hid hc
    have HgE := Lib.hid hgE
    clear hE hc hgE hin hxx hfE
    go_enter Tryz.func52, Tryz.ntmps52
    go_wp2_with fail
    rw [← Hwb.out]
    refine (monoidOf_any A (some ⟨w.heap.size + 1, 0, none⟩) n c 1 1 ms [f] wb Hx.out H7.out Hn.out rfl HA.out (fun h => (by cases h)) (by omega)).mono ?_
    rintro e w1 ⟨r, v, rfl, hb1, hr0, hs⟩
    obtain ⟨g0, rfl, hM, hv⟩ := hs ps HE.out.clo Hc.out
    rw [← HE.out.eq] at hM hv
    simp only [List.map_cons, List.map_nil] at hv
    rw [← Hxx.out] at hv
    rw [Hc.out]
    obtain ⟨Av, cv, hvv, hrv⟩ := hv.form
    subst hvv
    obtain ⟨bv, ov, e, hbv, c0⟩ := RdI.at_ hrv (k := 0) (by simp)
    subst e
    rw [Nat.add_zero] at c0
    simp only [List.length_singleton]
    obtain ⟨w2, hw2⟩ : ∃ w2, w2 = w1.alloc (.cells #[.slice (some ⟨bv, ov, none⟩) 1 cv] 108) := ⟨_, rfl⟩
    have hb2 : Below w1.heap.size w1 w2 := by rw [hw2]; exact (Below.refl _ _).alloc (Nat.le_refl _) _
    have C2 : w2.cell? ⟨w1.heap.size, 0, none⟩ = some (.slice (some ⟨bv, ov, none⟩) 1 cv) := by rw [hw2]; exact (Blk.new w1 _ _).cell 0
    have C4 : w2.cell? ⟨bv, ov, none⟩ = some (I x) := (hb2.cell (p := ⟨bv, ov, none⟩) hbv).trans c0
    have HM := Lib.hid (hM.below hb2 (Nat.le_refl _))
    have Hb2 := Lib.hid (hb1.trans (hb2.mono hb1.size))
    have Hw2 := Lib.hid hw2
    have D2 := Lib.hid C2
    have D4 := Lib.hid C4
    clear hM hs hr0 hv hrv hb1 c0 hw2 hb2 C2 C4
    go_wp2_with fail
    rw [← Hw2.out]
    refine (ideals_any w2 HM.out hlen HE.out.mnd).mono ?_
    rintro e w3 ⟨d, rfl, hI, hb3⟩
    obtain ⟨w4, hw4⟩ : ∃ w4, w4 = w3.alloc (.cells #[.pointer (some ⟨d, 0, none⟩)] 127) := ⟨_, rfl⟩
    have hb4 : Below w3.heap.size w3 w4 := by rw [hw4]; exact (Below.refl _ _).alloc (Nat.le_refl _) _
    have hb24 := hb3.trans (hb4.mono hb3.size)
    have C1 : w4.cell? ⟨w3.heap.size, 0, none⟩ = some (.pointer (some ⟨d, 0, none⟩)) := by rw [hw4]; exact (Blk.new w3 _ _).cell 0
    have E2 := (hb24.cell (p := ⟨w1.heap.size, 0, none⟩) (World.block_lt_of_cell? w2 _ D2.out)).trans D2.out
    have E4 := (hb24.cell (p := ⟨bv, ov, none⟩) (World.block_lt_of_cell? w2 _ D4.out)).trans D4.out
    have hI4 := hI.below hb4 (Nat.le_refl _)
    have hM4 := HM.out.below hb24 (Nat.le_refl _)
    have m1 := World.block_lt_of_cell? w4 _ C1
    have m2 := World.block_lt_of_cell? w4 _ E2
    have m4 := World.block_lt_of_cell? w4 _ E4
    have HP : Hid (PredC 165 #[.pointer (some ⟨w3.heap.size, 0, none⟩), .pointer (some ⟨w1.heap.size, 0, none⟩)] E.length (hP E x) w4) :=
      ⟨enters_of Tryz.func165 (by kernel_rfl) rfl, fun w' hb' k hk => gw1_any w' (hI4.below hb' (Nat.le_refl _)) hlen HE.out.mnd hk hxl ((hb'.cell m1).trans C1) ((hb'.cell m2).trans E2) ((hb'.cell m4).trans E4)⟩
    have HM4 := Lib.hid hM4
    have Hw4 := Lib.hid hw4
    have Hb4 := Lib.hid (Hb2.out.trans (hb24.mono Hb2.out.size))
    have hpos := HE.out.pos
    clear hI hb3 hb4 hb24 C1 E2 E4 hI4 hM4 m1 m2 m4 hw4
    go_wp2_with fail
    rw [← Hw4.out]
    refine (only_any _ _ _ w4 HM4.out hlen hpos HP.out).mono ?_
    rintro e w5 ⟨v, rfl, ho, hb5⟩
    have ho : OwM 31 w5 w4.heap.size v (gwE ms f) := by rw [HgE.out]; exact ho
    obtain ⟨K, hK⟩ : ∃ K, (gwE ms f).length = K := ⟨_, rfl⟩
    have hKb : K ≤ 300 := by rw [← hK, HgE.out]; exact Nat.le_trans (gwL_len _ _ _) hlen
    obtain ⟨A5, c5, hv5, hr5⟩ := ho.form
    rw [hK] at hv5
    subst hv5
    have Hr5 := Lib.hid hr5
    have Ho5 := Lib.hid ho
    have HK := Lib.hid hK
    have Hb5 := Lib.hid (Hbb.out.trans ((Hb4.out.trans (hb5.mono Hb4.out.size)).mono Hbb.out.size))
    have hz5 := hb5.size
    have HVV : Hid (∀ z ∈ gwE ms f, Valid z) := fun z hz => (HE.out.mnd.ok z (gwL_ok (Nat.le_refl _) z (by rw [← HgE.out]; exact hz))).1
    clear hb5 hr5 ho hK
    go_wp2_with fail
    refine (hasIdem_any A5 K c5 (gwE ms f) w5 Hr5.out HK.out (by omega) HVV.out).mono ?_
    rintro e w6 ⟨rfl, hb6⟩
    have Hb6 := Lib.hid (Hb5.out.trans (hb6.mono Hb5.out.size))
    have Ho6 := Lib.hid (Ho5.out.below hb6 (Nat.le_refl _))
    have hw4w : w.heap.size ≤ w4.heap.size := by have := Hbb.out.size; have := Hb4.out.size; omega
    clear hb6
    cases hi : (gwE ms f).any isIdem
    · have hC := gwC_no Hc.out hi
      have HR := Lib.hid (gwR_bad (ms := ms) (f := f) (by rw [hC]; decide))
      have HC := Lib.hid hC
      clear hC hi
      go_wp2_with fail
      go_ret2
      exact .mk _ (by rw [HC.out] <;> rfl) (by rw [HR.out]; exact OwM.nil_) Hb6.out
    · have hC := gwC_yes Hc.out hi
      have HR : Hid (gwR ms f = gwE ms f) := by show _ = _; unfold gwR; rw [if_pos hC]
      have HC := Lib.hid hC
      clear hC hi
      go_wp2_with fail
      go_ret2
      exact .mk _ (by rw [HC.out] <;> rfl) (by rw [HR.out]; exact Ho6.out.mono hw4w) Hb6.out
  · have hC := gwC_bad hc
    have hR := gwR_bad (ms := ms) (f := f) (by rw [hC]; exact hc)
    have hne : (monC ms [f] != 0) = true := by simpa using hc
    have HR := Lib.hid hR
    have HC := Lib.hid hC
    clear hR hC hc
    go_enter Tryz.func52, Tryz.ntmps52
    go_wp2_with fail
    rw [← Hwb.out]
    refine (monoidOf_any A (some ⟨w.heap.size + 1, 0, none⟩) n c 1 1 ms [f] wb Hx.out H7.out Hn.out rfl HA.out (fun h => (by cases h)) (by omega)).mono ?_
    rintro e w1 ⟨r, v, rfl, hb1, hr0, hs⟩
    obtain ⟨rfl, rfl⟩ := hr0 (by simpa using hne)
    have Hb2 := Lib.hid (Hbb.out.trans (hb1.mono Hbb.out.size))
    have Hb3 := Lib.hid (Hb2.out.alloc Hb2.out.size (.cells #[.slice none 0 0] 108))
    clear hb1 hr0 hs
    go_wp2_with fail
    go_ret2
    exact .mk _ (by rw [HC.out] <;> rfl) (by rw [HR.out]; exact OwM.nil_) Hb3.out
end Go.Proofs.YtkbfocoaobiijaaGreat
