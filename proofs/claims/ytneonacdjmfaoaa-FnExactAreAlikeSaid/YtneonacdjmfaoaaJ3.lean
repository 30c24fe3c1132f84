/- Contract of the reference's table of ideals; conditions as the theorem states. -/
import Derived.Test.YtneonacdjmfaoaaJ2
namespace Go.Proofs.Ytneonacdjmfaoaa
open Go.RowKit
set_option maxRecDepth 100000
set_option linter.unusedSimpArgs false
set_option linter.unusedVariables false

abbrev TBS : TypeId := 84
theorem infoBS : (Try.prog.info? TBS).map (fun i => (i.zero, i.size, i.bytes)) = some (some (.slice none 0 0), 1, 24) := by kernel_rfl
theorem wpList_pushR {w : World} {ops : Array Oper} {rest : List Oper} {o : Oper} {a : Act} {Q : Exit → Act → World → Prop} (hgd : o.guard = none) (s x : Operand)
    (ho : o.op = .call { callee := .builtin .append, args := #[s, x], argTypes := #[80, 80] }) (B : Nat) (v : Value) (vs : List Value) (hs : a.eval s = v) (hown : OwV TBS w B v vs) (n : Nat) (hlen : vs.length = n)
    (g : Nat) (c : Nat) (u : Value) (hx : a.eval x = .slice (some ⟨g, 0, none⟩) 1 c) (hg : w.cell? ⟨g, 0, none⟩ = some u) (hu : u.oneCell' = true)
    (hn : n < 1073741824) (hB : B ≤ w.heap.size) (H : Nat) (hH : w.heap.size = H)
    (h : ∀ g' cap w', OwV TBS w' B (.slice (some ⟨g', 0, none⟩) (n + 1) cap) (vs ++ [u]) → w.grownBy w' v.ownBlock → (v.ownBlock = some g' ∨ g' = H) → g' < w'.heap.size →
      wpList Try.prog ops Q rest (a.put o.dst (.slice (some ⟨g', 0, none⟩) (n + 1) cap)) w') : wpList Try.prog ops Q (o :: rest) a w := by
  subst hlen
  obtain ⟨i, hi, hz0, hz1, hz2⟩ := info_parts infoBS
  refine wpList_append_lies w hgd s x 80 ho B TBS i (.slice none 0 0) 1 24 Try.underlying80 hi hz0 hz1 hz2 rfl (by decide) v vs.length vs hs hown ⟨g, 0, none⟩ 1 c [u] hx rfl ?_ ?_ (by decide) (by unfold maxLen; omega) (by omega) hB H hH ?_
  · intro j u' hj
    match j, hj with
    | 0, hj => simp at hj; subst hj; simpa [Addr.add] using hg
  · intro u' hu'; simp at hu'; subst hu'; exact hu
  · intro g' cap w' h1 h2 h3 h4
    exact h g' cap w' (by unfold OwV; simpa using h1) h2 h3 h4

/-- the rows vs of a table of n flags each stand in w, above B and beside block o -/
def Tbl (w : World) (B n : Nat) (o : Option Nat) (vs : List Value) (Q : Nat → Nat → Bool) : Prop := ∀ j, j < vs.length → ∃ g, gv vs j = .slice (some ⟨g, 0, none⟩) n n ∧ Bls w g n (Q j) ∧ B ≤ g ∧ o ≠ some g
def RetT (N : Nat) (Q : Nat → Nat → Bool) (w : World) (e : Ending) (w' : World) : Prop := ∃ v vs, e = .returned v ∧ OwV TBS w' w.heap.size v vs ∧ vs.length = N ∧ Tbl w' w.heap.size N v.ownBlock vs Q ∧ Below w.heap.size w w'

set_option maxHeartbeats 1000000 in
theorem l03Table_any (A : Option Addr) (N c : Nat) (E : List M) (Ag : Option Addr) (k cg : Nat) (ms : List M) (l r : Bool) {n : Int} (w : World) (hx : RdM w w.heap.size A E) (hn : E.length = N) (hy : RdM w w.heap.size Ag ms) (hm2 : ms.length = k) (hN : N ≤ 300) (hk : k ≤ 6)
    (hM : Mnd n E) (hE : ∀ x, x ∈ E ↔ Mon ms n x) (hG : Pts n ms) :
    Calls Try.prog 52 #[.slice A N c, .slice Ag k cg, .bool l, .bool r] w (RetT N (fun i y => decide (Rel E l r (gm E i) (gm E y))) w) := by
  have Hx := Lib.hid hx
  have Hy := Lib.hid hy
  have Hn := Lib.hid hn
  have Hk := Lib.hid hm2
  have HM := Lib.hid hM
  have HE := Lib.hid hE
  have HG := Lib.hid hG
  clear hx hy hn hm2 hM hE hG
  go_enter Try.func52, Try.ntmps52
  go_wp2_with fail
  go_loopw [9, 10] (fun v i wr => ∃ (q : Nat) (vs : List Value), i = .int .i64 q ∧ q ≤ N ∧ vs.length = q ∧ Below w.heap.size w wr ∧ OwV TBS wr w.heap.size v vs ∧ Tbl wr w.heap.size N v.ownBlock vs (fun i y => decide (Rel E l r (gm E i) (gm E y)))) (fun _ i _ => N - (intOf i).toNat)
  case atStart => exact ⟨0, [], rfl, by omega, rfl, (Below.refl _ _).alloc (Nat.le_refl _) _, World.ownsRow_made w #[] 0 (Nat.le_refl _) (by simp [maxLen]) (by simp), fun j hj => by simp at hj⟩
  case round =>
    obtain ⟨q, vs, rfl, hq, hvl, hb', ho, ht⟩ := hrel
    obtain ⟨Av, cv, hv, _⟩ := ho.form
    rw [hvl] at hv
    subst hv
    have Hb := Lib.hid hb'
    have Ho := Lib.hid ho
    have Ht := Lib.hid ht
    have Hvl := Lib.hid hvl
    have hsz := hb'.size
    clear hb' ho ht hvl
    by_cases hqN : q < N
    · have hqz : (q : Int) < (N : Int) := by omega
      go_wp2_with fail
      refine (l03Reach_any A N c E Ag k cg ms q l r wr (Rd.more (Rd.below Hx.out Hb.out) hsz) Hn.out (Rd.more (Rd.below Hy.out Hb.out) hsz) Hk.out hN hk HM.out HE.out HG.out hqN).mono ?_
      rintro e w3 ⟨g3, rfl, hg3, hB3, hb3⟩
      have Hb3 := Lib.hid (Hb.out.trans (hb3.mono hsz))
      have Ho3 := Lib.hid (Ho.out.below hb3 (Nat.le_refl _))
      have HB3 := Lib.hid hB3
      have Ht3 : Hid (Tbl w3 w.heap.size N (Value.slice Av q cv).ownBlock vs (fun i y => decide (Rel E l r (gm E i) (gm E y)))) := fun j hj => by
        obtain ⟨g, e1, e2, e3, e4⟩ := Ht.out j hj
        exact ⟨g, e1, e2.below hb3 e2.lt, e3, e4⟩
      have hown3 : (Value.slice Av q cv).ownBlock ≠ some g3 := fun e => by have := (Ho.out.lt g3 e).2; omega
      have hl3 := hB3.lt
      have hz3 := hb3.size
      clear hb3 hB3 Hb Ho Ht
      go_wp2_with (at_builtin; refine wpList_pushR rfl (.tmp 18) (.tmp 25) rfl w.heap.size (.slice Av q cv) vs rfl (Ho3.out.alloc _) q Hvl.out w3.heap.size 1 (.slice (some ⟨g3, 0, none⟩) N N) rfl ((Blk.new _ _ _).cell 0) rfl (by omega) (by simp; omega) (w3.heap.size + 1) (by simp) ?_; intro g' cap w4 ho' hgr hg' hlt'; have Hb4 := Lib.hid ((Ho3.out.alloc (.cells #[.slice (some ⟨g3, 0, none⟩) N N] TBS)).bel (Hb3.out.alloc (by omega) _) hgr (Nat.le_refl _) (by simp; omega)); have Ho4 := Lib.hid ho'; have Hgr := Lib.hid hgr; have Hg' := Lib.hid hg'; clear ho' hgr hg' hlt')
      have Ht4 : Hid (Tbl w4 w.heap.size N (some g') (vs ++ [.slice (some ⟨g3, 0, none⟩) N N]) (fun i y => decide (Rel E l r (gm E i) (gm E y)))) := fun j hj => by
        have far : ∀ g Q, Bls w3 g N Q → (Value.slice Av q cv).ownBlock ≠ some g → Bls w4 g N Q ∧ some g' ≠ some g := fun g Q h1 h2 => by
          have hlg := h1.lt
          refine ⟨(h1.grown (World.grownBy_alloc w3 (.cells #[.slice (some ⟨g3, 0, none⟩) N N] TBS) none) (by simp)).grown Hgr.out (fun e => h2 e.symm), ?_⟩
          rcases Hg'.out with e | e
          · rw [← e]; exact h2
          · intro e2; injection e2 with e2; omega
        rw [List.length_append, List.length_singleton, Hvl.out] at hj
        by_cases e : j < q
        · obtain ⟨g, e1, e2, e3, e4⟩ := Ht3.out j (by rw [Hvl.out]; exact e)
          obtain ⟨f1, f2⟩ := far g _ e2 e4
          refine ⟨g, ?_, f1, e3, f2⟩
          rw [← e1]
          unfold gv
          rw [List.getD_eq_getElem?_getD, List.getD_eq_getElem?_getD, List.getElem?_append_left (by rw [Hvl.out]; exact e)]
        · obtain rfl : j = q := by omega
          obtain ⟨f1, f2⟩ := far g3 _ HB3.out hown3
          refine ⟨g3, ?_, f1, by omega, f2⟩
          unfold gv
          rw [List.getD_eq_getElem?_getD, List.getElem?_append_right (by rw [Hvl.out]; exact Nat.le_refl _), Hvl.out, Nat.sub_self]
          rfl
      go_wp2_with fail
      go_roundw
      case rel => exact ⟨q + 1, vs ++ [.slice (some ⟨g3, 0, none⟩) N N], by go_num, by omega, by rw [List.length_append, Hvl.out]; rfl, Hb4.out, Ho4.out, (by have h := Ht4.out; exact h)⟩
      case measure => simp [intOf]; omega
    · obtain rfl : q = N := by omega
      have hqz : ¬ ((q : Int) < (q : Int)) := by omega
      go_wp2_with fail
      go_ret
      exact ⟨_, vs, rfl, Ho.out, Hvl.out, Ht.out, Hb.out⟩
end Go.Proofs.Ytneonacdjmfaoaa
