/- Rows of numbers joined; the copy of the reference; what stands while the reference searches for the elements of a monoid; no conditions beyond those that each theorem states. -/
import Derived.Test.YtknknljkmkfmoaaN11
namespace Go.Proofs.Ytknknljkmkfmoaa
open Go.RowKit
set_option maxRecDepth 100000

theorem cI_app (xs ys : List Int) : cI (xs ++ ys) = cI xs ++ cI ys := by simp [cI]
theorem cI_one {zs : List Int} : ∀ u ∈ cI zs, u.oneCell' = true := by
  intro u hu
  obtain ⟨z, _, rfl⟩ := List.mem_map.1 hu
  rfl
/-- append of all numbers of a slice -/
theorem wpList_catI {w : World} {ops : Array Oper} {rest : List Oper} {o : Oper} {a : Act} {Q : Exit → Act → World → Prop} (hgd : o.guard = none) (s x : Operand)
    (ho : o.op = .call { callee := .builtin .append, args := #[s, x], argTypes := #[42, 42] }) (B : Nat) (v : Value) (ms xs : List Int) (hs : a.eval s = v) (hown : OwI 2 w B v ms)
    (A : Option Addr) (n c : Nat) (hx : a.eval x = .slice A n c) (hA : A = none → n = 0 ∧ c = 0) (hy : RdI w w.heap.size A xs) (hn : xs.length = n)
    (hb : ms.length + n < 1073741824) (hB : B ≤ w.heap.size)
    (h : ∀ v' w', OwI 2 w' B v' (ms ++ xs) → w.grownBy w' v.ownBlock → wpList Try.prog ops Q rest (a.put o.dst v') w') : wpList Try.prog ops Q (o :: rest) a w := by
  obtain ⟨i, hi, hz0, hz1, hz2⟩ := info_parts infoI
  subst hn
  cases A with
  | none =>
    obtain ⟨h0, rfl⟩ := hA rfl
    obtain rfl : xs = [] := List.eq_nil_of_length_eq_zero h0
    refine wpList_append_own_none hgd s x 42 ho B 2 i 1 Try.underlying42 hi v ms.length (cI ms) hs hown hx ?_
    exact h v w (by rw [List.append_nil]; exact hown) (World.grownBy.refl w _)
  | some ad =>
    refine wpList_append_own w hgd s x 42 ho B 2 i (.int .i64 0) 1 8 Try.underlying42 hi hz0 hz1 hz2 rfl (by decide) v ms.length (cI ms) hs hown ad xs.length c (cI xs) hx (by rw [cI_length]; omega) ?_ cI_one (by unfold maxLen; omega) (by omega) hB ?_
    · intro j u hj
      have hpos : 0 < xs.length := by
        rcases Nat.eq_zero_or_pos xs.length with h0 | h0
        · rw [List.eq_nil_of_length_eq_zero h0] at hj; simp [cI] at hj
        · exact h0
      obtain ⟨b', off', e, _, hc⟩ := hy.2 hpos
      injection e with e
      subst e
      have := hc j u hj
      unfold Addr.add
      split
      · rename_i h0; subst h0; simpa using this
      · exact this
    · intro v' w' h1 h2 _
      refine h v' w' ?_ h2
      unfold OwI
      rw [cI_app, List.length_append]
      exact h1
theorem OwI.nilA {e : TypeId} {w : World} {B n c : Nat} {A : Option Addr} {zs : List Int} (h : OwI e w B (.slice A n c) zs) : A = none → n = 0 ∧ c = 0 := by
  rintro rfl
  rcases h.2 with ⟨he, _⟩ | ⟨g, cap, cur, he, _⟩
  · injection he with _ h1 h2
    exact ⟨h1, h2⟩
  · injection he with h1 _ _
    cases h1

theorem l01Own_any (A : Option Addr) (n c : Nat) (zs : List Int) (w : World) (hA : A = none → n = 0 ∧ c = 0) (hy : RdI w w.heap.size A zs) (hn : zs.length = n) (hb : n < 1073741824) :
    Calls Try.prog 143 #[.slice A n c] w fun e w' => ∃ v, e = .returned v ∧ OwI 2 w' w.heap.size v zs ∧ Below w.heap.size w w' := by
  have Hy := Lib.hid hy
  have Hn := Lib.hid hn
  have HA := Lib.hid hA
  clear hy hn hA
  go_enter Try.func143, Try.ntmps143
  go_wp2_with (at_builtin; refine wpList_catI rfl (.tmp 3) (.tmp 4) rfl w.heap.size _ [] zs rfl (OwI.made' rfl (Nat.le_refl _)) A n c rfl HA.out (Rd.more (Rd.alloc Hy.out (Nat.le_refl _) _) (by simp)) Hn.out (by simp; omega) (by simp) ?_; intro v' w1 hown' hgr)
  have hbel : Below w.heap.size w w1 := (OwI.made' rfl (Nat.le_refl _) : OwI 2 (w.alloc (.cells #[] 2)) w.heap.size _ []).bel (by (repeat (first | with_reducible assumption | with_reducible exact Below.refl _ _ | with_reducible refine Below.setCell ?_ (by first | omega | (simp <;> omega)) _ | with_reducible refine Below.alloc ?_ (by first | omega | (simp <;> omega)) _ | with_reducible refine Below.drew ?_ | with_reducible refine Below.drewN ?_ _))) hgr (Nat.le_refl _) (by simp)
  have ho2 := hown'
  rw [List.nil_append] at ho2
  go_ret
  exact ⟨v', rfl, ho2, hbel⟩

/-- append of one slice to a row of slices of the call's own, in a list of operations -/
theorem wpList_pushV {w : World} {ops : Array Oper} {rest : List Oper} {o : Oper} {a : Act} {Q : Exit → Act → World → Prop} (hgd : o.guard = none) (s x : Operand)
    (ho : o.op = .call { callee := .builtin .append, args := #[s, x], argTypes := #[70, 70] }) (B : Nat) (v : Value) (vs : List Value) (hs : a.eval s = v) (hown : OwV 42 w B v vs) (n : Nat) (hlen : vs.length = n)
    (g : Nat) (c : Nat) (u : Value) (hu : u.oneCell' = true) (hx : a.eval x = .slice (some ⟨g, 0, none⟩) 1 c) (hg : w.cell? ⟨g, 0, none⟩ = some u)
    (hn : n < 1073741824) (hB : B ≤ w.heap.size) (H : Nat) (hH : w.heap.size = H)
    (h : ∀ g' cap w', OwV 42 w' B (.slice (some ⟨g', 0, none⟩) (n + 1) cap) (vs ++ [u]) → w.grownBy w' v.ownBlock → (v.ownBlock = some g' ∨ g' = H) → g' < w'.heap.size →
      wpList Try.prog ops Q rest (a.put o.dst (.slice (some ⟨g', 0, none⟩) (n + 1) cap)) w') : wpList Try.prog ops Q (o :: rest) a w := by
  subst hlen
  obtain ⟨i, hi, hz0, hz1, hz2⟩ := info_parts infoV
  refine wpList_append_lies w hgd s x 70 ho B 42 i (.slice none 0 0) 1 24 Try.underlying70 hi hz0 hz1 hz2 rfl (by decide) v vs.length vs hs hown ⟨g, 0, none⟩ 1 c [u] hx rfl ?_ ?_ (by decide) (by unfold maxLen; omega) (by omega) hB H hH ?_
  · intro j u' hj
    match j, hj with
    | 0, hj => simp at hj; subst hj; simpa [Addr.add] using hg
  · intro u' hu'; simp at hu'; subst hu'; exact hu
  · intro g' cap w' h1 h2 h3 h4
    exact h g' cap w' (by unfold OwV; simpa using h1) h2 h3 h4

/-! ### what stands while the reference searches -/
theorem Rd.grownAt {k n : Nat} {w w' : World} {A : Addr} {cs : List Value} {row : Option Nat} (h : Rd k w w.heap.size (some A) n cs) (hg : w.grownBy w' row) (hr : row ≠ some A.block) : Rd k w' w'.heap.size (some A) n cs := by
  refine ⟨h.1, fun hn => ?_⟩
  obtain ⟨b, off, e, hb, hc⟩ := h.2 hn
  injection e with e
  subst e
  exact ⟨b, off, rfl, Nat.lt_of_lt_of_le hb hg.size, fun j u hu => (World.cell?_of_block (w := w) (a := ⟨b, off + j, none⟩) (hg.block b hb fun e => hr e.symm)).trans (hc j u hu)⟩
structure CS (w0 : World) (L : List M) (us : List (List Int)) (vs : List Value) (K : List M) (vO vW : Value) (A : Addr) (w : World) : Prop where
  bel : Below w0.heap.size w0 w
  o : OwM 31 w w0.heap.size vO L
  wd : OwV 42 w w0.heap.size vW vs
  len : vs.length = us.length
  ws : ∀ j, j < us.length → OwI 2 w w0.heap.size (gv vs j) (us.getD j [])
  k : RdM w w.heap.size (some A) K
  kl : A.block < w.heap.size
  s1 : ∀ g, vO.ownBlock = some g → vW.ownBlock ≠ some g ∧ g ≠ A.block
  s2 : ∀ g, vW.ownBlock = some g → g ≠ A.block
  s3 : ∀ j, j < us.length → ∀ g, (gv vs j).ownBlock = some g → vO.ownBlock ≠ some g ∧ vW.ownBlock ≠ some g
section
variable {w0 w w' : World} {L : List M} {us : List (List Int)} {vs : List Value} {K : List M} {vO vW : Value} {A : Addr}
theorem CS.below (h : CS w0 L us vs K vO vW A w) (hb : Below w.heap.size w w') : CS w0 L us vs K vO vW A w' where
  bel := h.bel.trans (hb.mono h.bel.size)
  o := h.o.below hb (Nat.le_refl _)
  wd := h.wd.below hb (Nat.le_refl _)
  len := h.len
  ws := fun j hj => (h.ws j hj).below hb (Nat.le_refl _)
  k := Rd.more (Rd.below h.k hb) hb.size
  kl := Nat.lt_of_lt_of_le h.kl hb.size
  s1 := h.s1
  s2 := h.s2
  s3 := h.s3
theorem CS.pushO (h : CS w0 L us vs K vO vW A w) {g' n c : Nat} {L' : List M} (ho : OwM 31 w' w0.heap.size (.slice (some ⟨g', 0, none⟩) n c) L') (hg : w.grownBy w' vO.ownBlock) (hor : vO.ownBlock = some g' ∨ w.heap.size ≤ g') :
    CS w0 L' us vs K (.slice (some ⟨g', 0, none⟩) n c) vW A w' where
  bel := h.o.bel h.bel hg (Nat.le_refl _) h.bel.size
  o := ho
  wd := h.wd.grown hg fun g hv e => (h.s1 g e).1 hv
  len := h.len
  ws := fun j hj => (h.ws j hj).grown hg fun g hv e => (h.s3 j hj g hv).1 e
  k := Rd.grownAt h.k hg fun e => (h.s1 _ e).2 rfl
  kl := Nat.lt_of_lt_of_le h.kl hg.size
  s1 := fun g hv => by
    obtain rfl := own_eq hv
    rcases hor with h1 | h1
    · exact h.s1 _ h1
    · exact ⟨fun e => by have := (h.wd.lt _ e).2; omega, by have := h.kl; omega⟩
  s2 := h.s2
  s3 := fun j hj g hv => ⟨fun e => by
    obtain rfl := own_eq e
    rcases hor with h1 | h1
    · exact (h.s3 j hj _ hv).1 h1
    · have := ((h.ws j hj).lt _ hv).2; omega, (h.s3 j hj g hv).2⟩
theorem CS.pushW (h : CS w0 L us vs K vO vW A w) {g' n c : Nat} {u : Value} {z : List Int} (ho : OwV 42 w' w0.heap.size (.slice (some ⟨g', 0, none⟩) n c) (vs ++ [u])) (hg : w.grownBy w' vW.ownBlock) (hor : vW.ownBlock = some g' ∨ w.heap.size ≤ g')
    (hu : OwI 2 w w0.heap.size u z) (hu1 : ∀ g, u.ownBlock = some g → vO.ownBlock ≠ some g ∧ vW.ownBlock ≠ some g) :
    CS w0 L (us ++ [z]) (vs ++ [u]) K vO (.slice (some ⟨g', 0, none⟩) n c) A w' where
  bel := h.wd.bel h.bel hg (Nat.le_refl _) h.bel.size
  o := h.o.grown hg fun g hv e => (h.s1 g hv).1 e
  wd := ho
  len := by simp [h.len]
  ws := fun j hj => by
    by_cases e : j = us.length
    · subst e
      rw [gv_last h.len]
      simp only [List.getD_eq_getElem?_getD, List.getElem?_append_right (Nat.le_refl _), Nat.sub_self, List.getElem?_cons_zero, Option.getD_some]
      exact hu.grown hg fun g hv e => (hu1 g hv).2 e
    · have hj' : j < us.length := by simp at hj; omega
      rw [gv_app (by rw [h.len]; exact hj')]
      simp only [List.getD_eq_getElem?_getD, List.getElem?_append_left hj']
      rw [← List.getD_eq_getElem?_getD]
      exact (h.ws j hj').grown hg fun g hv e => (h.s3 j hj' g hv).2 e
  k := Rd.grownAt h.k hg fun e => h.s2 _ e rfl
  kl := Nat.lt_of_lt_of_le h.kl hg.size
  s1 := fun g hv => ⟨fun e => by
    obtain rfl := own_eq e
    rcases hor with h1 | h1
    · exact (h.s1 _ hv).1 h1
    · have := (h.o.lt _ hv).2; omega, (h.s1 g hv).2⟩
  s2 := fun g hv => by
    obtain rfl := own_eq hv
    rcases hor with h1 | h1
    · exact h.s2 _ h1
    · have := h.kl; omega
  s3 := fun j hj g hv => by
    by_cases e : j = us.length
    · subst e
      rw [gv_last h.len] at hv
      refine ⟨(hu1 g hv).1, fun e => ?_⟩
      obtain rfl := own_eq e
      rcases hor with h1 | h1
      · exact (hu1 _ hv).2 h1
      · have := (hu.lt _ hv).2; omega
    · have hj' : j < us.length := by simp at hj; omega
      rw [gv_app (by rw [h.len]; exact hj')] at hv
      refine ⟨(h.s3 j hj' g hv).1, fun e => ?_⟩
      obtain rfl := own_eq e
      rcases hor with h1 | h1
      · exact (h.s3 j hj' _ hv).2 h1
      · have := ((h.ws j hj').lt _ hv).2; omega
theorem CS.putK (h : CS w0 L us vs K vO vW A w) (hb : Below w.heap.size w w') {A' : Addr} {K' : List M} (hA : A' = A ∨ w.heap.size ≤ A'.block) (hk : RdM w' w'.heap.size (some A') K') (hp : 0 < K'.length) : CS w0 L us vs K' vO vW A' w' :=
  have h' := h.below hb
  { bel := h'.bel, o := h'.o, wd := h'.wd, len := h'.len, ws := h'.ws, k := hk
    kl := by
      obtain ⟨b, off, e, hlt, _⟩ := hk.2 hp
      injection e with e
      subst e
      exact hlt
    s1 := fun g hv => ⟨(h.s1 g hv).1, by
      rcases hA with rfl | hA
      · exact (h.s1 g hv).2
      · have := (h.o.lt g hv).2; omega⟩
    s2 := fun g hv => by
      rcases hA with rfl | hA
      · exact h.s2 g hv
      · have := (h.wd.lt g hv).2; omega
    s3 := h.s3 }
end
end Go.Proofs.Ytknknljkmkfmoaa
