/- Rows of slices, copies of rows, and the state of the search for the elements of a monoid; no conditions beyond those that each theorem states. -/
import Derived.Test.YtknknljkmkfmoaaN1
import Derived.Test.YtknknljkmkfmoaaC4
import Derived.Test.YtknknljkmkfmoaaR2
import Derived.Test.YtknknljkmkfmoaaE1
namespace Go.Proofs.Ytknknljkmkfmoaa
open Go.RowKit
set_option maxRecDepth 100000

/-! ### rows of slices -/
def gv (vs : List Value) (k : Nat) : Value := vs.getD k undef
theorem gv_eq {vs : List Value} {k : Nat} (hk : k < vs.length) : gv vs k = vs[k] := by simp [gv, List.getD, hk]
theorem gv_app {vs ws : List Value} {k : Nat} (hk : k < vs.length) : gv (vs ++ ws) k = gv vs k := by rw [gv_eq hk, gv_eq (by simp; omega), List.getElem_append_left hk]
theorem gv_last {vs : List Value} {v : Value} {k : Nat} (h : vs.length = k) : gv (vs ++ [v]) k = v := by
  subst h
  rw [gv_eq (by simp), List.getElem_append_right (by simp)]
  simp
def RdV (w : World) (B : Nat) (A : Option Addr) (vs : List Value) : Prop := Rd 1 w B A vs.length vs
theorem RdV.at_ {w : World} {B : Nat} {A : Option Addr} {vs : List Value} (h : RdV w B A vs) {k : Nat} (hk : k < vs.length) :
    ∃ b off, A = some ⟨b, off, none⟩ ∧ b < B ∧ w.cell? ⟨b, off + k, none⟩ = some (gv vs k) := by
  obtain ⟨b, off, e, hb, hc⟩ := h.2 (by omega)
  exact ⟨b, off, e, hb, hc k _ (by rw [gv_eq hk]; simp [hk])⟩
/-- the slice v owns a row of the values vs -/
def OwV (e : TypeId) (w : World) (B : Nat) (v : Value) (vs : List Value) : Prop := w.ownsRow B e 1 v vs.length vs
section
variable {e : TypeId} {w w' : World} {B B' : Nat} {v : Value} {vs : List Value}
theorem OwV.form (h : OwV e w B v vs) : ∃ A c, v = .slice A vs.length c ∧ RdV w w.heap.size A vs := by
  rcases h.2 with ⟨rfl, h0⟩ | ⟨g, cap, cur, rfl, _⟩
  · have hz : vs = [] := List.eq_nil_of_length_eq_zero h0
    subst hz
    exact ⟨none, 0, rfl, Rd.nil_⟩
  · exact ⟨_, _, rfl, Rd.of_own h⟩
theorem OwV.lt (h : OwV e w B v vs) : ∀ g, v.ownBlock = some g → B ≤ g ∧ g < w.heap.size := World.ownsRow.lt h
theorem OwV.mono (h : OwV e w B v vs) (hB : B' ≤ B) : OwV e w B' v vs := by
  refine ⟨h.1, ?_⟩
  rcases h.2 with hn | ⟨g, cap, cur, hv, hg, rest⟩
  · exact .inl hn
  · exact .inr ⟨g, cap, cur, hv, by omega, rest⟩
theorem OwV.keep (h : OwV e w B v vs) (hk : ∀ g, v.ownBlock = some g → w'.heap[g]? = w.heap[g]?) : OwV e w' B v vs := by
  refine ⟨h.1, ?_⟩
  rcases h.2 with hn | ⟨g, cap, cur, rfl, hg, hh, rest⟩
  · exact .inl hn
  · exact .inr ⟨g, cap, cur, rfl, hg, by rw [hk g rfl]; exact hh, rest⟩
theorem OwV.below {m : Nat} (h : OwV e w B v vs) (hb : Below m w w') (hm : w.heap.size ≤ m) : OwV e w' B v vs :=
  h.keep fun g hg => hb.block g (by have := h.lt g hg; omega)
theorem OwV.alloc (h : OwV e w B v vs) (o : Obj) : OwV e (w.alloc o) B v vs := h.keep fun g hg => Below.heap_alloc w o g (h.lt g hg).2
theorem OwV.grown {row : Option Nat} (h : OwV e w B v vs) (hg : w.grownBy w' row) (hr : ∀ g, v.ownBlock = some g → row ≠ some g) : OwV e w' B v vs :=
  h.keep fun g hv => hg.block g (h.lt g hv).2 (fun e => hr g hv e.symm)
theorem OwV.bel (h : OwV e w B v vs) {n : Nat} {w0 : World} (hb : Below n w0 w) (hg : w.grownBy w' v.ownBlock) (hB : n ≤ B) (hs : n ≤ w.heap.size) : Below n w0 w' :=
  hb.grown hg hs fun k hk => by have := h.lt k hk; omega
theorem OwV.nil_ : OwV e w B (.slice none 0 0) [] := World.ownsRow_nil w B e 1
/-- a slice literal of one value -/
theorem OwV.one {u : Value} (hb : B ≤ w.heap.size) : OwV e (w.alloc (.cells #[u] e)) B (.slice (some ⟨w.heap.size, 0, none⟩) 1 1) [u] :=
  ⟨by simp, .inr ⟨w.heap.size, 1, #[u], rfl, hb, heap_alloc_new w _, Nat.le_refl _, by simp [maxLen], rfl, by simp⟩⟩
theorem OwM.grown {ms : List M} {row : Option Nat} (h : OwM e w B v ms) (hg : w.grownBy w' row) (hr : ∀ g, v.ownBlock = some g → row ≠ some g) : OwM e w' B v ms :=
  h.keep fun g hv => hg.block g (h.lt g hv).2 (fun e => hr g hv e.symm)
theorem OwI.grown {zs : List Int} {row : Option Nat} (h : OwI e w B v zs) (hg : w.grownBy w' row) (hr : ∀ g, v.ownBlock = some g → row ≠ some g) : OwI e w' B v zs :=
  h.keep fun g hv => hg.block g (h.lt g hv).2 (fun e => hr g hv e.symm)
end
theorem infoV : (Try.prog.info? 42).map (fun i => (i.zero, i.size, i.bytes)) = some (some (.slice none 0 0), 1, 24) := by kernel_rfl

/-- append of one slice to a row of slices of the call's own -/
theorem wp_pushV {w : World} {o : Oper} {a : Act} {K : Act → World → Prop} {Q : Exit → Act → World → Prop} (s x : Operand)
    (ho : o.op = .call { callee := .builtin .append, args := #[s, x], argTypes := #[70, 70] }) (B : Nat) (v : Value) (vs : List Value) (hs : a.eval s = v) (hown : OwV 42 w B v vs)
    (g : Nat) (c : Nat) (u : Value) (hu : u.oneCell' = true) (hx : a.eval x = .slice (some ⟨g, 0, none⟩) 1 c) (hg : w.cell? ⟨g, 0, none⟩ = some u)
    (hn : vs.length < 1073741824) (hB : B ≤ w.heap.size)
    (h : ∀ g' cap w', OwV 42 w' B (.slice (some ⟨g', 0, none⟩) (vs.length + 1) cap) (vs ++ [u]) → w.grownBy w' v.ownBlock → (v.ownBlock = some g' ∨ g' = w.heap.size) → g' < w'.heap.size →
      K (a.put o.dst (.slice (some ⟨g', 0, none⟩) (vs.length + 1) cap)) w') : o.wp Try.prog a w K Q := by
  obtain ⟨i, hi, hz0, hz1, hz2⟩ := info_parts infoV
  refine wp_append_lies w s x 70 ho B 42 i (.slice none 0 0) 1 24 Try.underlying70 hi hz0 hz1 hz2 rfl (by decide) v vs.length vs hs hown ⟨g, 0, none⟩ 1 c [u] hx rfl ?_ ?_ (by decide) (by unfold maxLen; omega) (by omega) hB w.heap.size rfl ?_
  · intro j u' hj
    match j, hj with
    | 0, hj => simp at hj; subst hj; simpa [Addr.add] using hg
  · intro u' hu'; simp at hu'; subst hu'; exact hu
  · intro g' cap w' h1 h2 h3 h4
    exact h g' cap w' (by unfold OwV; simpa using h1) h2 h3 h4
/-- append of one map -/
theorem wp_pushM {w : World} {o : Oper} {a : Act} {K : Act → World → Prop} {Q : Exit → Act → World → Prop} (s x : Operand)
    (ho : o.op = .call { callee := .builtin .append, args := #[s, x], argTypes := #[29, 29] }) (B : Nat) (v : Value) (ms : List M) (hs : a.eval s = v) (hown : OwM 31 w B v ms)
    (g : Nat) (c : Nat) (m : M) (hx : a.eval x = .slice (some ⟨g, 0, none⟩) 1 c) (hg : Six w g m)
    (hn : ms.length < 1073741824) (hB : B ≤ w.heap.size)
    (h : ∀ g' cap w', OwM 31 w' B (.slice (some ⟨g', 0, none⟩) (ms.length + 1) cap) (ms ++ [m]) → w.grownBy w' v.ownBlock → (v.ownBlock = some g' ∨ g' = w.heap.size) → g' < w'.heap.size →
      K (a.put o.dst (.slice (some ⟨g', 0, none⟩) (ms.length + 1) cap)) w') : o.wp Try.prog a w K Q := by
  obtain ⟨i, hi, hz0, hz1, hz2⟩ := info_parts infoM
  refine wp_append_lies w s x 29 ho B 31 i (.agg (mc M0)) 6 48 Try.underlying29 hi hz0 hz1 hz2 rfl (by decide) v ms.length (mcs ms) hs hown ⟨g, 0, none⟩ 1 c (mc m).toList hx rfl ?_ ?_ (by decide) (by unfold maxLen; omega) (by omega) hB w.heap.size rfl ?_
  · intro j u hj
    obtain ⟨c0, c1, c2, c3, c4, c5⟩ := hg
    match j, hj with
    | 0, hj => simp at hj; subst hj; exact c0
    | 1, hj => simp at hj; subst hj; exact c1
    | 2, hj => simp at hj; subst hj; exact c2
    | 3, hj => simp at hj; subst hj; exact c3
    | 4, hj => simp at hj; subst hj; exact c4
    | 5, hj => simp at hj; subst hj; exact c5
    | n + 6, hj => simp at hj
  · intro u hu; simp at hu; rcases hu with rfl | rfl | rfl | rfl | rfl | rfl <;> rfl
  · intro g' cap w' h1 h2 h3 h4
    exact h g' cap w' (by unfold OwM; rw [mcs_app]; simpa [mcs] using h1) h2 h3 h4
/-- append of one number -/
theorem wp_pushI {w : World} {o : Oper} {a : Act} {K : Act → World → Prop} {Q : Exit → Act → World → Prop} (s x : Operand)
    (ho : o.op = .call { callee := .builtin .append, args := #[s, x], argTypes := #[42, 42] }) (B : Nat) (v : Value) (zs : List Int) (hs : a.eval s = v) (hown : OwI 2 w B v zs)
    (g : Nat) (c : Nat) (z : Int) (hx : a.eval x = .slice (some ⟨g, 0, none⟩) 1 c) (hg : w.cell? ⟨g, 0, none⟩ = some (I z))
    (hn : zs.length < 1073741824) (hB : B ≤ w.heap.size)
    (h : ∀ g' cap w', OwI 2 w' B (.slice (some ⟨g', 0, none⟩) (zs.length + 1) cap) (zs ++ [z]) → w.grownBy w' v.ownBlock → (v.ownBlock = some g' ∨ g' = w.heap.size) → g' < w'.heap.size →
      K (a.put o.dst (.slice (some ⟨g', 0, none⟩) (zs.length + 1) cap)) w') : o.wp Try.prog a w K Q := by
  obtain ⟨i, hi, hz0, hz1, hz2⟩ := info_parts infoI
  refine wp_append_lies w s x 42 ho B 2 i (.int .i64 0) 1 8 Try.underlying42 hi hz0 hz1 hz2 rfl (by decide) v zs.length (cI zs) hs hown ⟨g, 0, none⟩ 1 c [I z] hx rfl ?_ ?_ (by decide) (by unfold maxLen; omega) (by omega) hB w.heap.size rfl ?_
  · intro j u hj
    match j, hj with
    | 0, hj => simp at hj; subst hj; simpa [Addr.add] using hg
  · intro u hu; simp at hu; subst hu; rfl
  · intro g' cap w' h1 h2 h3 h4
    exact h g' cap w' (by unfold OwI; rw [cI_snoc]; simpa using h1) h2 h3 h4

/-! ### copies -/
theorem cloneNil_any (w : World) : Calls Try.prog 158 #[.slice none 0 0] w fun e w' => e = .returned (.slice none 0 0) ∧ w = w' := by
  have hnil := Lib.run_eql_slice_nil (P := Try.prog) w 42 2 none 0 0 0 0 Try.underlying42
  go_enter Try.func158, Try.ntmps158
  go_wp2
  go_ret
  exact ⟨rfl, rfl⟩
theorem cloneI_any (v : Value) (B : Nat) (u : List Int) (w : World) (ho : OwI 2 w B v u) (h : u = [] → v = .slice none 0 0) (hn : u.length < 1073741824) :
    Calls Try.prog 158 #[v] w fun e w' => ∃ v', e = .returned v' ∧ OwI 2 w' w.heap.size v' u ∧ Below w.heap.size w w' := by
  by_cases hu : u = []
  · obtain rfl := h hu
    subst hu
    refine (cloneNil_any w).mono ?_
    rintro e w' ⟨rfl, rfl⟩
    exact ⟨_, rfl, OwI.nil_, Below.refl _ _⟩
  · have hpos := List.length_pos_iff.2 hu
    rcases ho.2 with ⟨_, h0⟩ | ⟨g, cap, cur, rfl, _⟩
    · omega
    · obtain ⟨A, c, hv, hr⟩ := ho.form
      injection hv with h1 _ _
      subst h1
      refine (Clone_any g 0 cap u w hr hpos hn).mono ?_
      rintro e w' ⟨g', cap', rfl, h1, h2⟩
      exact ⟨_, rfl, h1, h2⟩

theorem OwM.rd {e : TypeId} {w : World} {B g n c : Nat} {ms : List M} (h : OwM e w B (.slice (some ⟨g, 0, none⟩) n c) ms) : RdM w w.heap.size (some ⟨g, 0, none⟩) ms := by
  obtain ⟨A, c', hv, hr⟩ := h.form
  injection hv with h1 _ _
  subst h1
  exact hr
theorem OwM.some_ {e : TypeId} {w : World} {B : Nat} {v : Value} {ms : List M} (h : OwM e w B v ms) (hpos : 0 < ms.length) : ∃ g c, v = .slice (some ⟨g, 0, none⟩) ms.length c := by
  rcases h.2 with ⟨_, h0⟩ | ⟨g, cap, cur, rfl, _⟩
  · omega
  · exact ⟨g, cap, rfl⟩
theorem OwV.some_ {e : TypeId} {w : World} {B : Nat} {v : Value} {vs : List Value} (h : OwV e w B v vs) (hpos : 0 < vs.length) : ∃ g c, v = .slice (some ⟨g, 0, none⟩) vs.length c := by
  rcases h.2 with ⟨_, h0⟩ | ⟨g, cap, cur, rfl, _⟩
  · omega
  · exact ⟨g, cap, rfl⟩
theorem OwV.rd {e : TypeId} {w : World} {B g n c : Nat} {vs : List Value} (h : OwV e w B (.slice (some ⟨g, 0, none⟩) n c) vs) : RdV w w.heap.size (some ⟨g, 0, none⟩) vs := by
  obtain ⟨A, c', hv, hr⟩ := h.form
  injection hv with h1 _ _
  subst h1
  exact hr
theorem cloneM_any (g n c B : Nat) (ms : List M) (w : World) (ho : OwM 31 w B (.slice (some ⟨g, 0, none⟩) n c) ms) (hn : ms.length = n) (hpos : 0 < n) (hb : n < 1073741824) :
    Calls Try.prog 159 #[.slice (some ⟨g, 0, none⟩) n c] w fun e w' => ∃ g' c', e = .returned (.slice (some ⟨g', 0, none⟩) n c') ∧ OwM 31 w' w.heap.size (.slice (some ⟨g', 0, none⟩) n c') ms ∧ Below w.heap.size w w' := by
  have hnil := Lib.run_eql_slice_nil (P := Try.prog) w 29 31 (some ⟨g, 0, none⟩) n c 0 0 Try.underlying29
  have Hr := Lib.hid ho.rd
  have Hn := Lib.hid hn
  clear ho hn
  go_enter Try.func159, Try.ntmps159
  go_wp2_with (at_builtin; refine wpList_catM rfl (.tmp 5) (.tmp 6) rfl w.heap.size _ [] ms rfl (OwM.made (Nat.le_refl _)) (some ⟨g, 0, none⟩) n c rfl (fun h => by cases h) (Rd.more (Rd.alloc Hr.out (Nat.le_refl _) _) (by simp)) Hn.out (by simp; omega) (by simp) ?_; intro v' w4 ho' hgr)
  obtain ⟨g', c', rfl⟩ := ho'.some_ (by simp [Hn.out]; omega)
  have ho2 := ho'
  rw [List.nil_append, Hn.out] at ho2
  have hbel : Below w.heap.size w w4 := (OwM.made (Nat.le_refl _) : OwM 31 (w.alloc (.cells #[] 31)) w.heap.size _ []).bel (by (repeat (first | with_reducible assumption | with_reducible exact Below.refl _ _ | with_reducible refine Below.setCell ?_ (by first | omega | (simp <;> omega)) _ | with_reducible refine Below.alloc ?_ (by first | omega | (simp <;> omega)) _ | with_reducible refine Below.drew ?_ | with_reducible refine Below.drewN ?_ _))) hgr (Nat.le_refl _) (by simp)
  go_ret
  refine ⟨g', c', ?_, ho2, hbel⟩
  show Ending.returned (Value.slice (some ⟨g', 0, none⟩) ([] ++ ms).length c') = _
  rw [List.nil_append, Hn.out]
end Go.Proofs.Ytknknljkmkfmoaa
