/- Rows of sets in memory, and the contracts of a set's own methods; the numbers put and asked lie below 320. The ideals of a monoid's elements: their block, and the region that makes it. Contract of the ideals of a monoid's elements; the monoid has at most 300 elements. Contract of the ideals of a monoid's elements; the monoid has at most 300 elements. Contract of the comparison of two elements by their ideals; the monoid has at most 300 elements. -/
import Derived.Test.YtkbfocoaobiijaaGreatQG07
import Derived.Laws.BitsLemmas
set_option linter.unusedSimpArgs false
set_option linter.unusedVariables false
namespace Go.Proofs.YtkbfocoaobiijaaGreat
open Go.RowKit
set_option maxRecDepth 100000
set_option linter.unusedSimpArgs false
set_option linter.unusedVariables false
abbrev TS : TypeId := 144
def Wds (w : World) (g n : Nat) (W : Nat → Nat → Nat) : Prop := ∃ cur : Array Value, Blk w g TS cur ∧ cur.size = n * 5 ∧ ∀ i, i < n → ∀ j, j < 5 → cur[i * 5 + j]? = some (U (W i j))
abbrev Sts (w : World) (g n : Nat) (P : Nat → Nat → Bool) : Prop := Wds w g n fun i j => wd (P i) j
section
variable {w w' : World} {g n : Nat} {W W' : Nat → Nat → Nat}
theorem Wds.lt (h : Wds w g n W) : g < w.heap.size := by obtain ⟨_, h, _⟩ := h; exact h.lt
theorem Wds.below {B : Nat} (h : Wds w g n W) (hb : Below B w w') (hg : g < B) : Wds w' g n W := by obtain ⟨c, h, h1⟩ := h; exact ⟨c, h.below hb hg, h1⟩
theorem Wds.grown {row : Option Nat} (h : Wds w g n W) (hb : w.grownBy w' row) (hg : some g ≠ row) : Wds w' g n W := by obtain ⟨c, h, h1⟩ := h; exact ⟨c, h.grown hb hg, h1⟩
theorem Wds.cell (h : Wds w g n W) {i j : Nat} (hi : i < n) (hj : j < 5) : w.cell? ⟨g, i * 5 + j, none⟩ = some (U (W i j)) := by obtain ⟨c, h, _, h1⟩ := h; rw [h.cell]; exact h1 i hi j hj
theorem Wds.frozen (h : Wds w g n W) (i : Nat) : w.frozen? ⟨g, i, none⟩ = false := by obtain ⟨c, h, _⟩ := h; exact h.frozen i
theorem Wds.congr (h : Wds w g n W) (e : ∀ i, i < n → ∀ j, j < 5 → W i j = W' i j) : Wds w g n W' := by
  obtain ⟨c, h, h1, h2⟩ := h
  exact ⟨c, h, h1, fun i hi j hj => by rw [← e i hi j hj]; exact h2 i hi j hj⟩
theorem Wds.set (h : Wds w g n W) {i j : Nat} (hi : i < n) (hj : j < 5) (x : Nat) : Wds (w.setCell ⟨g, i * 5 + j, none⟩ (U x)) g n fun a b => if a = i ∧ b = j then x else W a b := by
  obtain ⟨c, h, h1, h2⟩ := h
  refine ⟨_, h.set_ _ _, by simpa using h1, fun a ha b hb => ?_⟩
  rw [Array.getElem?_setIfInBounds]
  by_cases e : a = i ∧ b = j
  · obtain ⟨rfl, rfl⟩ := e
    rw [if_pos rfl, if_pos (by omega)]
    show _ = some (U (if a = a ∧ b = b then x else _))
    rw [if_pos ⟨rfl, rfl⟩]
  · rw [if_neg (by omega)]
    show _ = some (U (if a = i ∧ b = j then x else W a b))
    rw [if_neg e]
    exact h2 a ha b hb
end
theorem or_u64 {a b : Nat} (ha : a < 18446744073709551616) (hb : b < 18446744073709551616) : bits .or .u64 (a : Int) (b : Int) = ((a ||| b : Nat) : Int) :=
  (bits_nat .u64 64 (by decide) (fun n h0 h1 => by simp [IntKind.wrap, IntKind.signed, IntKind.bits]; omega) a b ha hb).2
theorem endUnit {P : Program} {fn : Func} {R : Ending → World → Prop} {a : Act} {w : World} (hr : fn.results = #[]) (hd : a.defers = []) (hR : R (.returned (.tuple #[])) w) : bodyPost P fn R .normal a w :=
  bodyPost_end (results_none hr _ _ _) hd hR
theorem put_any {n g i p : Nat} {P : Nat → Nat → Bool} (w : World) (h : Sts w g n P) (hi : i < n) (hp : p < 320) :
    Calls Tryz.prog 225 #[.pointer (some ⟨g, i * 5, none⟩), I p] w fun e w' => e = .returned (.tuple #[]) ∧ w.grownBy w' (some g) ∧ Sts w' g n fun a k => P a k || decide (a = i ∧ k = p) := by
  obtain ⟨q, hq⟩ : ∃ q, p / 64 = q := ⟨_, rfl⟩
  obtain ⟨r, hr⟩ : ∃ r, p % 64 = r := ⟨_, rfl⟩
  have hq5 : q < 5 := by omega
  have hr6 : r < 64 := by omega
  have e1 : (p : Int).tdiv 64 = q := by rw [Int.tdiv_eq_ediv_of_nonneg (by omega)]; omega
  have e2 : (p : Int).tmod 64 = r := by rw [Int.tmod_eq_emod_of_nonneg (by omega)]; omega
  have hlt := h.lt
  obtain ⟨x, hx⟩ : ∃ x, x = wd (P i) q := ⟨_, rfl⟩
  obtain ⟨y, hy⟩ : ∃ y, y = x ||| 2 ^ r := ⟨_, rfl⟩
  have hxl : x < 18446744073709551616 := by rw [hx]; exact wd_lt _ _
  have hrl : 2 ^ r < 18446744073709551616 := Nat.pow_lt_pow_right (by decide) hr6
  have hor := or_u64 hxl hrl
  rw [← hy] at hor
  obtain ⟨m, hm⟩ : ∃ m, m = 2 ^ r := ⟨_, rfl⟩
  rw [← hm] at hor hrl
  have e3 : IntKind.u64.wrap ((2 : Int) ^ r) = (m : Int) := by
    have : ((2 : Int) ^ r) = (m : Int) := by rw [hm]; push_cast; rfl
    rw [this]; exact IntWalk.u64_in _ ⟨by omega, by omega⟩
  have e4 : IntKind.i64.wrap (q : Int) = (q : Int) := IntWalk.i64_in _ ⟨by omega, by omega⟩
  have e5 : (q : Int) < 5 := by omega
  have HS : Hid (Sts w g n P) := h
  have Hy : Hid (y = wd (fun k => P i k || decide (k = p)) q) := by show _ = _; rw [hy, hx, ← hq, ← hr, wd_put]
  have Hx : Hid (x = wd (P i) q) := hx
  clear h hx hy hm
  go_enter Tryz.func225, Tryz.ntmps225
  go_wp2_with fail
  refine wp_region_last [] rfl (by kernel_rfl) (by kernel_rfl) (by kernel_rfl) (by kernel_rfl) (fun w' => Below w.heap.size w w')
    (fun w' => ∃ w3, Below w.heap.size w w3 ∧ w' = w3.setCell ⟨g, i * 5 + q, none⟩ (U y)) _
    [.pointer (some ⟨g, i * 5, none⟩), I p, I q, .pointer (some ⟨g, i * 5, none⟩), .pointer (some ⟨g, i * 5 + q, none⟩), U x, I p, I r, U m, U y, .pointer (some ⟨g, i * 5, none⟩), .pointer (some ⟨g, i * 5 + q, none⟩), undef]
    (by simp only [putAll, List.setIfInBounds_toArray, List.set_cons_succ, List.set_cons_zero]; rfl) (Below.refl _ _).drew 12 _ rfl rfl ?hop ?hst ?hQ
  case hop =>
    refine FixBL.toL (fun w' w'' hS hb => hS.trans (hb.mono hS.size)) _ _ ?_
    refine ⟨.inr ?_, .inr ?_, .inr ?_, .inr ?_, .inr ?_, .inr ?_, .inr ?_, .inr ?_, .inr ?_, .inr ?_, .inr ?_, .inr ?_, .inl rfl, trivial⟩
    · (with_reducible refine FixB.of ?_ ?_; rfl; intro w' hS; have s0 := (HS.out.below hS hlt).cell hi hq5; rw [← Hx.out] at s0; clear hS; unfold Oper.wp; go_simp; first | done | exact Below.refl _ _)
    · (with_reducible refine FixB.of ?_ ?_; rfl; intro w' hS; have s0 := (HS.out.below hS hlt).cell hi hq5; rw [← Hx.out] at s0; clear hS; unfold Oper.wp; go_simp; first | done | exact Below.refl _ _)
    · (with_reducible refine FixB.of ?_ ?_; rfl; intro w' hS; have s0 := (HS.out.below hS hlt).cell hi hq5; rw [← Hx.out] at s0; clear hS; unfold Oper.wp; go_simp; first | done | exact Below.refl _ _)
    · (with_reducible refine FixB.of ?_ ?_; rfl; intro w' hS; have s0 := (HS.out.below hS hlt).cell hi hq5; rw [← Hx.out] at s0; clear hS; unfold Oper.wp; go_simp; first | done | exact Below.refl _ _)
    · (with_reducible refine FixB.of ?_ ?_; rfl; intro w' hS; have s0 := (HS.out.below hS hlt).cell hi hq5; rw [← Hx.out] at s0; clear hS; unfold Oper.wp; go_simp; first | done | exact Below.refl _ _)
    · (with_reducible refine FixB.of ?_ ?_; rfl; intro w' hS; have s0 := (HS.out.below hS hlt).cell hi hq5; rw [← Hx.out] at s0; clear hS; unfold Oper.wp; go_simp; first | done | exact Below.refl _ _)
    · (with_reducible refine FixB.of ?_ ?_; rfl; intro w' hS; have s0 := (HS.out.below hS hlt).cell hi hq5; rw [← Hx.out] at s0; clear hS; unfold Oper.wp; go_simp; first | done | exact Below.refl _ _)
    · (with_reducible refine FixB.of ?_ ?_; rfl; intro w' hS; have s0 := (HS.out.below hS hlt).cell hi hq5; rw [← Hx.out] at s0; clear hS; unfold Oper.wp; go_simp; first | done | exact Below.refl _ _)
    · (with_reducible refine FixB.of ?_ ?_; rfl; intro w' hS; have s0 := (HS.out.below hS hlt).cell hi hq5; rw [← Hx.out] at s0; clear hS; unfold Oper.wp; go_simp; first | done | exact Below.refl _ _)
    · (with_reducible refine FixB.of ?_ ?_; rfl; intro w' hS; have s0 := (HS.out.below hS hlt).cell hi hq5; rw [← Hx.out] at s0; clear hS; unfold Oper.wp; go_simp; first | done | exact Below.refl _ _)
    · (with_reducible refine FixB.of ?_ ?_; rfl; intro w' hS; have s0 := (HS.out.below hS hlt).cell hi hq5; rw [← Hx.out] at s0; clear hS; unfold Oper.wp; go_simp; first | done | exact Below.refl _ _)
    · (with_reducible refine FixB.of ?_ ?_; rfl; intro w' hS; have s0 := (HS.out.below hS hlt).cell hi hq5; rw [← Hx.out] at s0; clear hS; unfold Oper.wp; go_simp; first | done | exact Below.refl _ _)
  case hst =>
    refine ⟨rfl, fun w' hS => ?_⟩
    have hMM := HS.out.below hS hlt
    have c0 := hMM.cell hi hq5
    have z0 := hMM.frozen (i * 5 + q)
    have Hs := Lib.hid hS
    clear hS hMM
    unfold Oper.wp
    go_simp
    exact ⟨w', Hs.out, rfl⟩
  case hQ =>
    rintro w' ⟨w3, hb3, rfl⟩
    have hg : Hid (w.grownBy (w3.setCell ⟨g, i * 5 + q, none⟩ (U y)) (some g)) := grown_trans (grown_below hb3 _) (grown_set w3 _ _)
    have hS : Hid (Sts (w3.setCell ⟨g, i * 5 + q, none⟩ (U y)) g n fun a k => P a k || decide (a = i ∧ k = p)) := by
      refine ((HS.out.below hb3 hlt).set hi hq5 y).congr fun a ha b hb => ?_
      by_cases e : a = i
      · by_cases e2 : b = q
        · show (if a = i ∧ b = q then y else _) = _
          rw [if_pos ⟨e, e2⟩, Hy.out, e, e2]
          simp
        · show (if a = i ∧ b = q then y else _) = _
          rw [if_neg (fun h => e2 h.2), e]
          have := wd_else (P i) p (q := b) (by omega)
          simpa using this.symm
      · show (if a = i ∧ b = q then y else _) = _
        rw [if_neg (fun h => e h.1)]
        simp [e]
    clear hb3
    go_wp2
    exact endUnit (by kernel_rfl) rfl ⟨rfl, hg.out, hS.out⟩
theorem and_bit {x r : Nat} (hx : x < 18446744073709551616) : (bits .and .u64 ((x : Int) / 2 ^ r) 1 == 1) = x.testBit r := by
  have h1 : ((x : Int) / 2 ^ r) = ((x / 2 ^ r : Nat) : Int) := by push_cast; rfl
  have h2 := (bits_nat .u64 64 (by decide) (fun n h0 h1 => IntWalk.u64_in n ⟨h0, by omega⟩) (x / 2 ^ r) 1 (Nat.lt_of_le_of_lt (Nat.div_le_self _ _) hx) (by decide)).1
  rw [h1, show ((1 : Int)) = ((1 : Nat) : Int) from rfl, h2, Nat.and_one_is_mod, Nat.testBit_eq_decide_div_mod_eq, Bool.eq_iff_iff]
  simp only [beq_iff_eq, decide_eq_true_eq]
  omega
theorem has_any {n g i p : Nat} {P : Nat → Nat → Bool} (w : World) (h : Sts w g n P) (hi : i < n) (hp : p < 320) :
    Calls Tryz.prog 170 #[.pointer (some ⟨g, i * 5, none⟩), I p] w fun e w' => e = .returned (.bool (P i p)) ∧ w = w' := by
  obtain ⟨q, hq⟩ : ∃ q, p / 64 = q := ⟨_, rfl⟩
  obtain ⟨r, hr⟩ : ∃ r, p % 64 = r := ⟨_, rfl⟩
  have hq5 : q < 5 := by omega
  have hr6 : r < 64 := by omega
  have e1 : (p : Int).tdiv 64 = q := by rw [Int.tdiv_eq_ediv_of_nonneg (by omega)]; omega
  have e2 : (p : Int).tmod 64 = r := by rw [Int.tmod_eq_emod_of_nonneg (by omega)]; omega
  have c0 := h.cell hi hq5
  obtain ⟨x, hx⟩ : ∃ x, x = wd (P i) q := ⟨_, rfl⟩
  have hb := wd_bit (P i) q hr6
  rw [show 64 * q + r = p by omega, ← hx] at hb
  rw [← hx] at c0
  have hxl : x < 18446744073709551616 := by rw [hx]; exact wd_lt _ _
  rw [← hb]
  have Hb := Lib.hid (and_bit (r := r) hxl)
  clear hb hx h
  go_enter Tryz.func170, Tryz.ntmps170
  go_wp2
  go_ret
  exact ⟨by rw [← Hb.out] <;> rfl, rfl⟩
theorem add_any {n g i : Nat} {P : Nat → Nat → Bool} {p' : Nat → Bool} (w : World) (h : Sts w g n P) (hi : i < n) :
    Calls Tryz.prog 226 #[.pointer (some ⟨g, i * 5, none⟩), .agg (sc p')] w fun e w' => e = .returned (.tuple #[]) ∧ w.grownBy w' (some g) ∧ Sts w' g n fun a k => P a k || (decide (a = i) && p' k) := by
  have hlt := h.lt
  obtain ⟨wb, hwb⟩ : ∃ wb, wb = w.alloc (.cells (sc p') TS) := ⟨_, rfl⟩
  have HB : Hid (Blk wb w.heap.size TS (sc p')) := by show Blk _ _ _ _; rw [hwb]; exact Blk.new w _ _
  have Hgw : Hid (w.grownBy wb (some g)) := by show w.grownBy _ _; rw [hwb]; exact World.grownBy_alloc w _ _
  have HW : Hid (Wds wb g n fun a b => if a = i ∧ b < 0 then wd (fun k => P a k || p' k) b else wd (P a) b) :=
    (h.grown (w' := wb) (row := none) (by rw [hwb]; exact World.grownBy_alloc w _ _) (by simp)).congr fun a ha b hb => by simp
  have Hwb := Lib.hid hwb
  clear h hwb
  go_enter Tryz.func226, Tryz.ntmps226
  go_wp2_with fail
  rw [← Hwb.out]
  go_loopw [5] (fun t wr => ∃ j : Nat, t = .int .i64 j ∧ j ≤ 5 ∧ w.grownBy wr (some g) ∧ Wds wr g n (fun a b => if a = i ∧ b < j then wd (fun k => P a k || p' k) b else wd (P a) b) ∧ Blk wr w.heap.size TS (sc p')) (fun t _ => 5 - (intOf t).toNat)
  case atStart => exact ⟨0, rfl, by omega, Hgw.out, HW.out, HB.out⟩
  case round =>
    clear HB Hgw HW Hwb
    obtain ⟨j, rfl, hj, hg, hW, hB⟩ := hrel
    by_cases hj5 : j < 5
    · have hji : (j : Int) < 5 := by omega
      obtain ⟨x, hx⟩ : ∃ x, x = wd (P i) j := ⟨_, rfl⟩
      obtain ⟨y, hy⟩ : ∃ y, y = wd p' j := ⟨_, rfl⟩
      obtain ⟨z, hz⟩ : ∃ z, z = x ||| y := ⟨_, rfl⟩
      have hxl : x < 18446744073709551616 := by rw [hx]; exact wd_lt _ _
      have hyl : y < 18446744073709551616 := by rw [hy]; exact wd_lt _ _
      have hor := or_u64 hxl hyl
      rw [← hz] at hor
      have Hz : Hid (z = wd (fun k => P i k || p' k) j) := by show _ = _; rw [hz, hx, hy, wd_or]
      have HcB : Hid (∀ w', Below wr.heap.size wr w' → w'.cell? ⟨w.heap.size, j, none⟩ = some (U y)) := fun w' hb => by
        rw [(hB.below hb hB.lt).cell, hy]; exact sc_get p' hj5
      have HcW : Hid (∀ w', Below wr.heap.size wr w' → w'.cell? ⟨g, i * 5 + j, none⟩ = some (U x)) := fun w' hb => by
        rw [(hW.below hb hW.lt).cell hi hj5, if_neg (by omega), hx]
      have HW := Lib.hid hW
      have HB := Lib.hid hB
      have Hg := Lib.hid hg
      have hgl := hW.lt
      clear hx hy hz hW hB hg
      go_wp2_with fail
      refine wp_region_last [] rfl (by kernel_rfl) (by kernel_rfl) (by kernel_rfl) (by kernel_rfl) (fun w' => Below wr.heap.size wr w')
        (fun w' => ∃ w3, Below wr.heap.size wr w3 ∧ w' = w3.setCell ⟨g, i * 5 + j, none⟩ (U z)) _
        [.pointer (some ⟨g, i * 5, none⟩), I j, .pointer (some ⟨g, i * 5, none⟩), .pointer (some ⟨g, i * 5 + j, none⟩), U x, I j, .pointer (some ⟨w.heap.size, j, none⟩), U y, U z, .pointer (some ⟨g, i * 5, none⟩), .pointer (some ⟨g, i * 5 + j, none⟩), undef]
        (by simp only [putAll, List.setIfInBounds_toArray, List.set_cons_succ, List.set_cons_zero]; rfl) (Below.refl _ _).drew 11 _ rfl rfl ?hop ?hst ?hQ
      case hop =>
        refine FixBL.toL (fun w' w'' hS hb => hS.trans (hb.mono hS.size)) _ _ ?_
        refine ⟨.inr ?_, .inr ?_, .inr ?_, .inr ?_, .inr ?_, .inr ?_, .inr ?_, .inr ?_, .inr ?_, .inr ?_, .inr ?_, .inl rfl, trivial⟩
        · (with_reducible refine FixB.of ?_ ?_; rfl; intro w' hS; have s0 := HcW.out _ hS; have s1 := HcB.out _ hS; clear hS; unfold Oper.wp; go_simp; first | done | exact Below.refl _ _)
        · (with_reducible refine FixB.of ?_ ?_; rfl; intro w' hS; have s0 := HcW.out _ hS; have s1 := HcB.out _ hS; clear hS; unfold Oper.wp; go_simp; first | done | exact Below.refl _ _)
        · (with_reducible refine FixB.of ?_ ?_; rfl; intro w' hS; have s0 := HcW.out _ hS; have s1 := HcB.out _ hS; clear hS; unfold Oper.wp; go_simp; first | done | exact Below.refl _ _)
        · (with_reducible refine FixB.of ?_ ?_; rfl; intro w' hS; have s0 := HcW.out _ hS; have s1 := HcB.out _ hS; clear hS; unfold Oper.wp; go_simp; first | done | exact Below.refl _ _)
        · (with_reducible refine FixB.of ?_ ?_; rfl; intro w' hS; have s0 := HcW.out _ hS; have s1 := HcB.out _ hS; clear hS; unfold Oper.wp; go_simp; first | done | exact Below.refl _ _)
        · (with_reducible refine FixB.of ?_ ?_; rfl; intro w' hS; have s0 := HcW.out _ hS; have s1 := HcB.out _ hS; clear hS; unfold Oper.wp; go_simp; first | done | exact Below.refl _ _)
        · (with_reducible refine FixB.of ?_ ?_; rfl; intro w' hS; have s0 := HcW.out _ hS; have s1 := HcB.out _ hS; clear hS; unfold Oper.wp; go_simp; first | done | exact Below.refl _ _)
        · (with_reducible refine FixB.of ?_ ?_; rfl; intro w' hS; have s0 := HcW.out _ hS; have s1 := HcB.out _ hS; clear hS; unfold Oper.wp; go_simp; first | done | exact Below.refl _ _)
        · (with_reducible refine FixB.of ?_ ?_; rfl; intro w' hS; have s0 := HcW.out _ hS; have s1 := HcB.out _ hS; clear hS; unfold Oper.wp; go_simp; first | done | exact Below.refl _ _)
        · (with_reducible refine FixB.of ?_ ?_; rfl; intro w' hS; have s0 := HcW.out _ hS; have s1 := HcB.out _ hS; clear hS; unfold Oper.wp; go_simp; first | done | exact Below.refl _ _)
        · (with_reducible refine FixB.of ?_ ?_; rfl; intro w' hS; have s0 := HcW.out _ hS; have s1 := HcB.out _ hS; clear hS; unfold Oper.wp; go_simp; first | done | exact Below.refl _ _)
      case hst =>
        refine ⟨rfl, fun w' hS => ?_⟩
        have c0 := HcW.out _ hS
        have z0 := (HW.out.below hS hgl).frozen (i * 5 + j)
        have Hs := Lib.hid hS
        clear hS
        unfold Oper.wp
        go_simp
        exact ⟨w', Hs.out, rfl⟩
      case hQ =>
        rintro w' ⟨w3, hb3, rfl⟩
        have Hg2 : Hid (w.grownBy (w3.setCell ⟨g, i * 5 + j, none⟩ (U z)) (some g)) := grown_trans Hg.out (grown_trans (grown_below hb3 _) (grown_set w3 _ _))
        have hBl := HB.out.below hb3 HB.out.lt
        have HB2 : Hid (Blk (w3.setCell ⟨g, i * 5 + j, none⟩ (U z)) w.heap.size TS (sc p')) := hBl.far (by show w.heap.size ≠ g; omega) _
        have HW2 : Hid (Wds (w3.setCell ⟨g, i * 5 + j, none⟩ (U z)) g n fun a b => if a = i ∧ b < j + 1 then wd (fun k => P a k || p' k) b else wd (P a) b) := by
          refine ((HW.out.below hb3 hgl).set hi hj5 z).congr fun a ha b hb => ?_
          show (if a = i ∧ b = j then z else if a = i ∧ b < j then _ else _) = _
          by_cases e : a = i ∧ b = j
          · rw [if_pos e, if_pos ⟨e.1, by omega⟩, Hz.out, e.1, e.2]
          · rw [if_neg e]
            by_cases e2 : a = i ∧ b < j
            · rw [if_pos e2, if_pos ⟨e2.1, by omega⟩]
            · rw [if_neg e2, if_neg (by omega)]
        clear hb3 hBl HcB HcW HB HW Hg
        go_wp2_with fail
        go_roundw
        case rel => exact ⟨j + 1, by go_num, by omega, Hg2.out, HW2.out, HB2.out⟩
        case measure => simp [intOf]; omega
    · obtain rfl : j = 5 := by omega
      have hji : ¬ ((5 : Nat) : Int) < 5 := by omega
      have HW2 : Hid (Sts wr g n fun a k => P a k || (decide (a = i) && p' k)) := hW.congr fun a ha b hb => by
        by_cases e : a = i
        · rw [if_pos ⟨e, hb⟩]; simp [e]
        · rw [if_neg (fun h => e h.1)]; simp [e]
      have Hg := Lib.hid hg
      clear hW hB hg
      go_wp2_with fail
      exact endUnit (by kernel_rfl) rfl ⟨rfl, Hg.out, HW2.out⟩
set_option maxRecDepth 100000
set_option linter.unusedSimpArgs false
set_option linter.unusedVariables false
abbrev TSS : TypeId := 145
abbrev TD : TypeId := 147
theorem infoT : (Tryz.prog.info? TS).map (fun i => (i.zero, i.size, i.bytes)) = some (some (.agg #[U 0, U 0, U 0, U 0, U 0]), 5, 40) := by kernel_rfl
theorem made_five (n : Nat) : (madeCells (Value.agg #[U 0, U 0, U 0, U 0, U 0]).cells n).toList = List.replicate n (U 0) := by
  have hz : ∀ j, j < 5 → ((Value.agg #[U 0, U 0, U 0, U 0, U 0]).cells)[j]! = U 0 := by
    intro j hj
    match j, hj with
    | 0, _ => rfl
    | 1, _ => rfl
    | 2, _ => rfl
    | 3, _ => rfl
    | 4, _ => rfl
  refine List.ext_getElem (by simp [madeCells]) fun j h1 h2 => ?_
  rw [List.getElem_replicate]
  simp only [madeCells, Array.toList_map, List.getElem_map]
  exact hz _ (Nat.mod_lt _ (by decide))
theorem madeS {w : World} {B n h : Nat} (hr : w.ownsRow B TS 5 (.slice (some ⟨h, 0, none⟩) n n) n (madeCells (Value.agg #[U 0, U 0, U 0, U 0, U 0]).cells (n * 5)).toList) : Sts w h n fun _ _ => false := by
  rw [made_five] at hr
  rcases hr.2 with ⟨he, _⟩ | ⟨g, cap, cur, he, hg, hh, hn, hm, hs, ht⟩
  · cases he
  · injection he with he1 _ he2
    injection he1 with he1
    injection he1 with he1
    subst he1 he2
    refine ⟨cur, hh, hs, fun i hi j hj => ?_⟩
    have hl : i * 5 + j < n * 5 := by omega
    have h2 : (cur.toList.take (n * 5))[i * 5 + j]? = some (U 0) := by rw [ht, List.getElem?_replicate, if_pos hl]
    rw [List.getElem?_take, if_pos hl, Array.getElem?_toList] at h2
    show _ = some (U (wd (fun _ => false) j))
    rw [h2, wd_none]
theorem wp_makeT {w : World} {o : Oper} {a : Act} {K : Act → World → Prop} {Q : Exit → Act → World → Prop} (l c : Operand) (hop : o.op = Op.makeSlice TSS l c) (n : Nat) (hl : a.eval l = I n) (hc : a.eval c = I n) (hn : n < 1073741824)
    (h : ∀ w', Sts w' w.heap.size n (fun _ _ => false) → w.grownBy w' none → K (a.put o.dst (.slice (some ⟨w.heap.size, 0, none⟩) n n)) w') : o.wp Tryz.prog a w K Q := by
  obtain ⟨i, hi, hz0, hz1, hz2⟩ := info_parts infoT
  obtain ⟨w', hrun, r1, r2⟩ := run_make_full (P := Tryz.prog) w w.heap.size TSS TS i (.agg #[U 0, U 0, U 0, U 0, U 0]) 5 Tryz.underlying145 hi hz0 hz1 .i64 .i64 n (by rw [hz2]; omega) (by unfold maxLen; omega) (Nat.le_refl _)
  unfold Oper.wp
  simp [execOp, hop, hl, hc, hrun, Result.andThen]
  exact h w' (madeS r1) r2
structure Ide (w : World) (d n gl gr gb : Nat) (L R B : Nat → Nat → Bool) : Prop where
  blk : Blk w d TD #[.slice (some ⟨gl, 0, none⟩) n n, .slice (some ⟨gr, 0, none⟩) n n, .slice (some ⟨gb, 0, none⟩) n n]
  l : Sts w gl n L
  r : Sts w gr n R
  b : Sts w gb n B
  lr : gl ≠ gr
  lb : gl ≠ gb
  rb : gr ≠ gb
  dl : d ≠ gl
  dr : d ≠ gr
  db : d ≠ gb
section
variable {w w' : World} {d n gl gr gb : Nat} {L R B L' R' B' : Nat → Nat → Bool}
theorem Ide.below {m : Nat} (h : Ide w d n gl gr gb L R B) (hb : Below m w w') (hm : w.heap.size ≤ m) : Ide w' d n gl gr gb L R B :=
  ⟨h.blk.below hb (Nat.lt_of_lt_of_le h.blk.lt hm), h.l.below hb (Nat.lt_of_lt_of_le h.l.lt hm), h.r.below hb (Nat.lt_of_lt_of_le h.r.lt hm), h.b.below hb (Nat.lt_of_lt_of_le h.b.lt hm), h.lr, h.lb, h.rb, h.dl, h.dr, h.db⟩
theorem Ide.congr (h : Ide w d n gl gr gb L R B) (hl : ∀ a, a < n → ∀ p, L a p = L' a p) (hr : ∀ a, a < n → ∀ p, R a p = R' a p) (hb : ∀ a, a < n → ∀ p, B a p = B' a p) : Ide w d n gl gr gb L' R' B' :=
  ⟨h.blk, h.l.congr fun i hi j _ => wd_ext fun _ _ => hl i hi _, h.r.congr fun i hi j _ => wd_ext fun _ _ => hr i hi _, h.b.congr fun i hi j _ => wd_ext fun _ _ => hb i hi _, h.lr, h.lb, h.rb, h.dl, h.dr, h.db⟩
theorem Ide.setL (h : Ide w d n gl gr gb L R B) (hg : w.grownBy w' (some gl)) (hL : Sts w' gl n L') : Ide w' d n gl gr gb L' R B :=
  ⟨h.blk.grown hg (by simpa using h.dl), hL, h.r.grown hg (by simpa using Ne.symm h.lr), h.b.grown hg (by simpa using Ne.symm h.lb), h.lr, h.lb, h.rb, h.dl, h.dr, h.db⟩
theorem Ide.setR (h : Ide w d n gl gr gb L R B) (hg : w.grownBy w' (some gr)) (hR : Sts w' gr n R') : Ide w' d n gl gr gb L R' B :=
  ⟨h.blk.grown hg (by simpa using h.dr), h.l.grown hg (by simpa using h.lr), hR, h.b.grown hg (by simpa using Ne.symm h.rb), h.lr, h.lb, h.rb, h.dl, h.dr, h.db⟩
theorem Ide.setB (h : Ide w d n gl gr gb L R B) (hg : w.grownBy w' (some gb)) (hB : Sts w' gb n B') : Ide w' d n gl gr gb L R B' :=
  ⟨h.blk.grown hg (by simpa using h.db), h.l.grown hg (by simpa using h.lb), h.r.grown hg (by simpa using h.rb), hB, h.lr, h.lb, h.rb, h.dl, h.dr, h.db⟩
theorem Ide.c0 (h : Ide w d n gl gr gb L R B) : w.cell? ⟨d, 0, none⟩ = some (.slice (some ⟨gl, 0, none⟩) n n) := h.blk.cell 0
theorem Ide.c1 (h : Ide w d n gl gr gb L R B) : w.cell? ⟨d, 1, none⟩ = some (.slice (some ⟨gr, 0, none⟩) n n) := h.blk.cell 1
theorem Ide.c2 (h : Ide w d n gl gr gb L R B) : w.cell? ⟨d, 2, none⟩ = some (.slice (some ⟨gb, 0, none⟩) n n) := h.blk.cell 2
end
theorem bel_grown {B g : Nat} {a w w' : World} (h : Below B a w) (hg : w.grownBy w' (some g)) (hB : B ≤ w.heap.size) (hge : B ≤ g) : Below B a w' :=
  h.grown hg hB (fun k hk => by injection hk with hk; subst hk; exact hge)
structure G2g where
  q1 : Nat
  q3 : Nat
  q5 : Nat
  q7 : Nat
structure S2g (w0 : World) (n : Nat) (b1 b3 b5 b7 : Bool) (s : G2g) (w : World) : Prop where
  bel : Below w0.heap.size w0 w
  s1 : b1 = true → Sts w s.q1 n (fun _ _ => false) ∧ w0.heap.size ≤ s.q1
  s3 : b3 = true → Sts w s.q3 n (fun _ _ => false) ∧ w0.heap.size ≤ s.q3
  s5 : b5 = true → Sts w s.q5 n (fun _ _ => false) ∧ w0.heap.size ≤ s.q5
  d13 : b1 = true → b3 = true → s.q1 ≠ s.q3
  d15 : b1 = true → b5 = true → s.q1 ≠ s.q5
  d35 : b3 = true → b5 = true → s.q3 ≠ s.q5
  s7 : b7 = true → b1 = true ∧ b3 = true ∧ b5 = true ∧ w0.heap.size ≤ s.q7 ∧ Ide w s.q7 n s.q1 s.q3 s.q5 (fun _ _ => false) (fun _ _ => false) (fun _ _ => false)
section
variable {w0 w w' : World} {n : Nat} {b1 b3 b5 b7 : Bool} {s : G2g}
theorem S2g.start (w0 : World) (n : Nat) (s : G2g) : S2g w0 n false false false false s w0.drew :=
  ⟨(Below.refl _ _).drew, by simp, by simp, by simp, by simp, by simp, by simp, by simp⟩
theorem S2g.do1 (h : S2g w0 n false b3 b5 false s w) (hs : Sts w' w.heap.size n (fun _ _ => false)) (hg : w.grownBy w' none) : S2g w0 n true b3 b5 false { s with q1 := w.heap.size } w' :=
  ⟨h.bel.grown hg h.bel.size (fun k hk => by cases hk), fun _ => ⟨hs, h.bel.size⟩, fun e => ⟨(h.s3 e).1.grown hg (by simp), (h.s3 e).2⟩, fun e => ⟨(h.s5 e).1.grown hg (by simp), (h.s5 e).2⟩,
    fun _ e => by have := (h.s3 e).1.lt; show w.heap.size ≠ s.q3; omega, fun _ e => by have := (h.s5 e).1.lt; show w.heap.size ≠ s.q5; omega, h.d35, fun e => (by cases e)⟩
theorem S2g.do3 (h : S2g w0 n b1 false b5 false s w) (hs : Sts w' w.heap.size n (fun _ _ => false)) (hg : w.grownBy w' none) : S2g w0 n b1 true b5 false { s with q3 := w.heap.size } w' :=
  ⟨h.bel.grown hg h.bel.size (fun k hk => by cases hk), fun e => ⟨(h.s1 e).1.grown hg (by simp), (h.s1 e).2⟩, fun _ => ⟨hs, h.bel.size⟩, fun e => ⟨(h.s5 e).1.grown hg (by simp), (h.s5 e).2⟩,
    fun e _ => by have := (h.s1 e).1.lt; show s.q1 ≠ w.heap.size; omega, h.d15, fun _ e => by have := (h.s5 e).1.lt; show w.heap.size ≠ s.q5; omega, fun e => (by cases e)⟩
theorem S2g.do5 (h : S2g w0 n b1 b3 false false s w) (hs : Sts w' w.heap.size n (fun _ _ => false)) (hg : w.grownBy w' none) : S2g w0 n b1 b3 true false { s with q5 := w.heap.size } w' :=
  ⟨h.bel.grown hg h.bel.size (fun k hk => by cases hk), fun e => ⟨(h.s1 e).1.grown hg (by simp), (h.s1 e).2⟩, fun e => ⟨(h.s3 e).1.grown hg (by simp), (h.s3 e).2⟩, fun _ => ⟨hs, h.bel.size⟩,
    h.d13, fun e _ => by have := (h.s1 e).1.lt; show s.q1 ≠ w.heap.size; omega, fun e _ => by have := (h.s3 e).1.lt; show s.q3 ≠ w.heap.size; omega, fun e => (by cases e)⟩
theorem S2g.do7 (h : S2g w0 n true true true false s w) : S2g w0 n true true true true { s with q7 := w.heap.size } (w.alloc (.cells #[.slice (some ⟨s.q1, 0, none⟩) n n, .slice (some ⟨s.q3, 0, none⟩) n n, .slice (some ⟨s.q5, 0, none⟩) n n] TD)) := by
  have hg := World.grownBy_alloc w (.cells #[.slice (some ⟨s.q1, 0, none⟩) n n, .slice (some ⟨s.q3, 0, none⟩) n n, .slice (some ⟨s.q5, 0, none⟩) n n] TD) none
  have l1 := (h.s1 rfl).1.lt
  have l3 := (h.s3 rfl).1.lt
  have l5 := (h.s5 rfl).1.lt
  have h1 := (h.s1 rfl).1.grown hg (by simp)
  have h3 := (h.s3 rfl).1.grown hg (by simp)
  have h5 := (h.s5 rfl).1.grown hg (by simp)
  exact ⟨h.bel.grown hg h.bel.size (fun k hk => by cases hk), fun _ => ⟨h1, (h.s1 rfl).2⟩, fun _ => ⟨h3, (h.s3 rfl).2⟩, fun _ => ⟨h5, (h.s5 rfl).2⟩, h.d13, h.d15, h.d35,
    fun _ => ⟨rfl, rfl, rfl, h.bel.size, ⟨Blk.new w _ _, h1, h3, h5, h.d13 rfl rfl, h.d15 rfl rfl, h.d35 rfl rfl, by show w.heap.size ≠ s.q1; omega, by show w.heap.size ≠ s.q3; omega, by show w.heap.size ≠ s.q5; omega⟩⟩⟩
end
set_option maxRecDepth 100000
set_option linter.unusedSimpArgs false
set_option linter.unusedVariables false
def ahd (i k a b : Nat) : Bool := decide (a < i ∨ a = i ∧ b < k)
def pix (E : List M) (a b : Nat) : Nat := ix E (mul (gm E a) (gm E b))
def rP (E : List M) (i k a p : Nat) : Bool := (List.range E.length).any fun b => ahd i k a b && decide (pix E a b = p)
def lP (E : List M) (i k b p : Nat) : Bool := (List.range E.length).any fun a => ahd i k a b && decide (pix E a b = p)
def bP (E : List M) (i k a p : Nat) : Bool := (List.range E.length).any fun b => ahd i k a b && (rSet E a b && lSet E b p)
theorem any_iff {N : Nat} {q : Nat → Bool} : (List.range N).any q = true ↔ ∃ b, b < N ∧ q b = true := by simp
theorem rP_iff {E : List M} {i k a p : Nat} : rP E i k a p = true ↔ ∃ b, b < E.length ∧ (a < i ∨ a = i ∧ b < k) ∧ pix E a b = p := by
  simp [rP, ahd]
theorem lP_iff {E : List M} {i k b p : Nat} : lP E i k b p = true ↔ ∃ a, a < E.length ∧ (a < i ∨ a = i ∧ b < k) ∧ pix E a b = p := by
  simp [lP, ahd]
theorem bP_iff {E : List M} {i k a p : Nat} : bP E i k a p = true ↔ ∃ b, b < E.length ∧ (a < i ∨ a = i ∧ b < k) ∧ rSet E a b = true ∧ lSet E b p = true := by
  simp [bP, ahd]
section
variable {E : List M} {n : Int}
theorem rP_zero (E : List M) (a p : Nat) : rP E 0 0 a p = false := by rw [← Bool.not_eq_true, rP_iff]; rintro ⟨b, _, h, _⟩; omega
theorem lP_zero (E : List M) (a p : Nat) : lP E 0 0 a p = false := by rw [← Bool.not_eq_true, lP_iff]; rintro ⟨b, _, h, _⟩; omega
theorem bP_zero (E : List M) (a p : Nat) : bP E 0 0 a p = false := by rw [← Bool.not_eq_true, bP_iff]; rintro ⟨b, _, h, _⟩; omega
theorem rP_row (E : List M) (i a p : Nat) : rP E i E.length a p = rP E (i + 1) 0 a p := by
  rw [Bool.eq_iff_iff, rP_iff, rP_iff]
  exact ⟨fun ⟨b, h, h1, h2⟩ => ⟨b, h, by omega, h2⟩, fun ⟨b, h, h1, h2⟩ => ⟨b, h, by omega, h2⟩⟩
theorem lP_row (E : List M) (i : Nat) {b : Nat} (hb : b < E.length) (p : Nat) : lP E i E.length b p = lP E (i + 1) 0 b p := by
  rw [Bool.eq_iff_iff, lP_iff, lP_iff]
  exact ⟨fun ⟨a, h, h1, h2⟩ => ⟨a, h, by omega, h2⟩, fun ⟨a, h, h1, h2⟩ => ⟨a, h, by omega, h2⟩⟩
theorem bP_row (E : List M) (i a p : Nat) : bP E i E.length a p = bP E (i + 1) 0 a p := by
  rw [Bool.eq_iff_iff, bP_iff, bP_iff]
  exact ⟨fun ⟨b, h, h1, h2⟩ => ⟨b, h, by omega, h2⟩, fun ⟨b, h, h1, h2⟩ => ⟨b, h, by omega, h2⟩⟩
theorem rP_step {i k : Nat} (hk : k < E.length) (a p : Nat) : (rP E i k a p || decide (a = i ∧ p = pix E i k)) = rP E i (k + 1) a p := by
  rw [Bool.eq_iff_iff, Bool.or_eq_true, rP_iff, rP_iff, decide_eq_true_eq]
  constructor
  · rintro (⟨b, h, h1, h2⟩ | ⟨rfl, rfl⟩)
    · exact ⟨b, h, by omega, h2⟩
    · exact ⟨k, hk, by omega, rfl⟩
  · rintro ⟨b, h, h1, h2⟩
    by_cases e : a = i ∧ b = k
    · obtain ⟨rfl, rfl⟩ := e
      exact .inr ⟨rfl, h2.symm⟩
    · exact .inl ⟨b, h, by omega, h2⟩
theorem lP_step {i k : Nat} (hi : i < E.length) (b p : Nat) : (lP E i k b p || decide (b = k ∧ p = pix E i k)) = lP E i (k + 1) b p := by
  rw [Bool.eq_iff_iff, Bool.or_eq_true, lP_iff, lP_iff, decide_eq_true_eq]
  constructor
  · rintro (⟨a, h, h1, h2⟩ | ⟨rfl, rfl⟩)
    · exact ⟨a, h, by omega, h2⟩
    · exact ⟨i, hi, by omega, rfl⟩
  · rintro ⟨a, h, h1, h2⟩
    by_cases e : a = i ∧ b = k
    · obtain ⟨rfl, rfl⟩ := e
      exact .inr ⟨rfl, h2.symm⟩
    · exact .inl ⟨a, h, by omega, h2⟩
theorem bP_skip {i k : Nat} (h : rSet E i k = false) (a p : Nat) : bP E i k a p = bP E i (k + 1) a p := by
  rw [Bool.eq_iff_iff, bP_iff, bP_iff]
  constructor
  · rintro ⟨b, h0, h1, h2⟩
    exact ⟨b, h0, by omega, h2⟩
  · rintro ⟨b, h0, h1, h2, h3⟩
    refine ⟨b, h0, ?_, h2, h3⟩
    by_cases e : a = i ∧ b = k
    · rw [e.1, e.2, h] at h2; cases h2
    · omega
theorem bP_step {i k : Nat} (hk : k < E.length) (h : rSet E i k = true) (a p : Nat) : (bP E i k a p || (decide (a = i) && lSet E k p)) = bP E i (k + 1) a p := by
  rw [Bool.eq_iff_iff, Bool.or_eq_true, bP_iff, bP_iff, Bool.and_eq_true, decide_eq_true_eq]
  constructor
  · rintro (⟨b, h0, h1, h2⟩ | ⟨rfl, h2⟩)
    · exact ⟨b, h0, by omega, h2⟩
    · exact ⟨k, hk, by omega, h, h2⟩
  · rintro ⟨b, h0, h1, h2, h3⟩
    by_cases e : a = i ∧ b = k
    · obtain ⟨rfl, rfl⟩ := e
      exact .inr ⟨rfl, h3⟩
    · exact .inl ⟨b, h0, by omega, h2, h3⟩
theorem pix_lt (hm : Mnd n E) {i k : Nat} (hi : i < E.length) (hk : k < E.length) : pix E i k < E.length := hm.ix_mul hi hk
theorem rP_end (hm : Mnd n E) {a : Nat} (ha : a < E.length) (p : Nat) : rP E E.length 0 a p = rSet E a p := by
  rw [Bool.eq_iff_iff, rP_iff]
  unfold rSet
  simp only [Bool.and_eq_true, decide_eq_true_eq]
  constructor
  · rintro ⟨b, hb, _, rfl⟩
    refine ⟨pix_lt hm ha hb, gm E b, gm_mem hb, ?_⟩
    rw [pix, gm_ix (hm.mulE _ (gm_mem ha) _ (gm_mem hb))]
  · rintro ⟨hp, x, hx, e⟩
    refine ⟨ix E x, ix_lt hx, .inl ha, ?_⟩
    rw [pix, gm_ix hx, e, ix_gm hm.asc.nodup hp]
theorem lP_end (hm : Mnd n E) {b : Nat} (hb : b < E.length) (p : Nat) : lP E E.length 0 b p = lSet E b p := by
  rw [Bool.eq_iff_iff, lP_iff]
  unfold lSet
  simp only [Bool.and_eq_true, decide_eq_true_eq]
  constructor
  · rintro ⟨a, ha, _, rfl⟩
    refine ⟨pix_lt hm ha hb, gm E a, gm_mem ha, ?_⟩
    rw [pix, gm_ix (hm.mulE _ (gm_mem ha) _ (gm_mem hb))]
  · rintro ⟨hp, x, hx, e⟩
    refine ⟨ix E x, ix_lt hx, .inl (ix_lt hx), ?_⟩
    rw [pix, gm_ix hx, e, ix_gm hm.asc.nodup hp]
theorem bP_end (hm : Mnd n E) {a : Nat} (ha : a < E.length) (p : Nat) : bP E E.length 0 a p = jSet E a p := by
  rw [Bool.eq_iff_iff, bP_iff]
  unfold jSet
  simp only [Bool.and_eq_true, decide_eq_true_eq]
  rw [JJ_iff hm (gm_mem ha)]
  constructor
  · rintro ⟨b, hb, _, h1, h2⟩
    unfold rSet at h1
    unfold lSet at h2
    simp only [Bool.and_eq_true, decide_eq_true_eq] at h1 h2
    exact ⟨h2.1, b, hb, h1.2, h2.2⟩
  · rintro ⟨hp, b, hb, h1, h2⟩
    refine ⟨b, hb, .inl ha, ?_, ?_⟩
    · unfold rSet; simp [hb, h1]
    · unfold lSet; simp [hp, h2]
end
set_option maxRecDepth 100000
set_option linter.unusedSimpArgs false
set_option linter.unusedVariables false
theorem FlagPost.two2 {ops : Array Oper} {γ : Type} {F : γ → Array Value} {D : List Deferred} {S : (Nat → Bool) → γ → World → Prop} {i : Nat} {o : Oper} {d : Nat → Bool} {c : γ} {a' : Act} {w' : World} (c' : γ) (t : Nat) (v : Value) (k : Nat) (q : Oper) (t2 : Nat) (v2 : Value)
    (hd : a'.defers = D) (ho : o.dst = some t) (hv : a'.tmps.getD t undef = (F c').getD t undef) (hS : S (fun j => if j = i then true else d j) c' w') (hF : F c' = ((F c).setIfInBounds t v).setIfInBounds t2 v2)
    (hq : ops[k]? = some q) (hq2 : q.dst = some t2) (hk : k ≠ i) (hdk : d k = false) : FlagPost ops F D S i o d c a' w' :=
  ⟨c', [(t, v), (t2, v2)], ⟨hd, fun t' ht => by rw [ho] at ht; injection ht with ht; subst ht; exact hv⟩, hS, hF, fun p hp => by
    simp at hp
    rcases hp with rfl | rfl
    · exact .inl ho
    · exact .inr ⟨k, q, hq, hq2, hk, hdk⟩⟩
theorem Wds.five {w : World} {g n : Nat} {W : Nat → Nat → Nat} (h : Wds w g n W) {i : Nat} (hi : i < n) : w.cell? ⟨g, i * 5, none⟩ = some (U (W i 0)) ∧ w.cell? ⟨g, i * 5 + 1, none⟩ = some (U (W i 1)) ∧ w.cell? ⟨g, i * 5 + 2, none⟩ = some (U (W i 2)) ∧ w.cell? ⟨g, i * 5 + 3, none⟩ = some (U (W i 3)) ∧ w.cell? ⟨g, i * 5 + 4, none⟩ = some (U (W i 4)) :=
  ⟨h.cell hi (j := 0) (by decide), h.cell hi (j := 1) (by decide), h.cell hi (j := 2) (by decide), h.cell hi (j := 3) (by decide), h.cell hi (j := 4) (by decide)⟩
def IdeAt (w : World) (d : Nat) (E : List M) : Prop := ∃ gl gr gb, Ide w d E.length gl gr gb (lSet E) (rSet E) (jSet E)
theorem IdeAt.below {w w' : World} {d m : Nat} {E : List M} (h : IdeAt w d E) (hb : Below m w w') (hm : w.heap.size ≤ m) : IdeAt w' d E := by
  obtain ⟨gl, gr, gb, h⟩ := h
  exact ⟨gl, gr, gb, h.below hb hm⟩
def RetD (E : List M) (w : World) (e : Ending) (w' : World) : Prop := ∃ d, e = .returned (.pointer (some ⟨d, 0, none⟩)) ∧ IdeAt w' d E ∧ Below w.heap.size w w'
set_option maxHeartbeats 2000000 in
theorem ideals_any {n : Int} {B g : Nat} {E : List M} {us : List (List Int)} (w : World) (h : MonAt n B g E us w) (hE : E.length ≤ 300) (hm : Mnd n E) :
    Calls Tryz.prog 147 #[.pointer (some ⟨g, 0, none⟩)] w (RetD E w) := by
  have H := Lib.hid h
  have hpos := hm.pos
  obtain ⟨_, ev, wv, pl, vs, hM, hP, hO, _⟩ := h
  obtain ⟨gE, cE, rfl⟩ := hO.some_ hpos
  have c0 := hM.c0
  have Hm := Lib.hid hm
  have HE := Lib.hid hE
  obtain ⟨N, hN⟩ : ∃ N, E.length = N := ⟨_, rfl⟩
  rw [hN] at hpos hE c0
  have HN := Lib.hid hN
  clear hM hP hO hm hN
  go_enter Tryz.func147, Tryz.ntmps147
  go_wp2_with fail
  refine wp_region_flags [] rfl (by kernel_rfl) (by kernel_rfl) [] (by kernel_rfl) _
    (fun s : G2g => [I N, .slice (some ⟨s.q1, 0, none⟩) N N, I N, .slice (some ⟨s.q3, 0, none⟩) N N, I N, .slice (some ⟨s.q5, 0, none⟩) N N, .agg #[.slice (some ⟨s.q1, 0, none⟩) N N, .slice (some ⟨s.q3, 0, none⟩) N N, .slice (some ⟨s.q5, 0, none⟩) N N], .pointer (some ⟨s.q7, 0, none⟩), .pointer (some ⟨s.q7, 0, none⟩)])
    (by intro s; simp only [putAll, List.setIfInBounds_toArray, List.set_cons_succ, List.set_cons_zero]; rfl)
    [] rfl _
    (by intro s; simp only [setAll, List.setIfInBounds_toArray, List.set_cons_succ, List.set_cons_zero]; rfl) (by kernel_rfl)
    (fun d s w' => S2g w N (d 1) (d 3) (d 5) (d 7) s w')
    ⟨0, 0, 0, 0⟩ (S2g.start w N _) ?hop ?hQ
  case hop =>
    refine ⟨?_, ?_, ?_, ?_, ?_, ?_, ?_, ?_, ?_, trivial⟩
    · refine ⟨rfl, Flag.pure (fun _ _ _ h => h) fun d c w' hd hdeps hcl hS => ?_⟩
      skip
      clear hS hdeps hcl hd
      unfold Oper.wp
      go_simp
      exact ⟨rfl, fun t ht => by injection ht with ht; subst ht; rfl, rfl⟩
    · refine ⟨rfl, fun d s w' hd hdeps hcl hS => ?_⟩
      have d6 := hcl.down (k := 6) (j := 1) rfl (by kernel_rfl) hd
      have d7 := hcl.down (k := 7) (j := 6) rfl (by kernel_rfl) d6
      simp only [hd, d7] at hS
      refine wp_makeT (.tmp 15) (.tmp 15) rfl N rfl rfl (by omega) ?_
      intro w2 hs hg
      refine FlagPost.two2 ({ s with q1 := w'.heap.size } : G2g) 16 (.slice (some ⟨w'.heap.size, 0, none⟩) N N) 6 _ 21 (.agg #[.slice (some ⟨w'.heap.size, 0, none⟩) N N, .slice (some ⟨s.q3, 0, none⟩) N N, .slice (some ⟨s.q5, 0, none⟩) N N]) rfl rfl rfl ?_ rfl rfl rfl (by decide) d6
      show S2g _ _ true (d 3) (d 5) (d 7) _ _
      rw [d7]
      exact hS.do1 hs hg
    · refine ⟨rfl, Flag.pure (fun _ _ _ h => h) fun d c w' hd hdeps hcl hS => ?_⟩
      skip
      clear hS hdeps hcl hd
      unfold Oper.wp
      go_simp
      exact ⟨rfl, fun t ht => by injection ht with ht; subst ht; rfl, rfl⟩
    · refine ⟨rfl, fun d s w' hd hdeps hcl hS => ?_⟩
      have d6 := hcl.down (k := 6) (j := 3) rfl (by kernel_rfl) hd
      have d7 := hcl.down (k := 7) (j := 6) rfl (by kernel_rfl) d6
      simp only [hd, d7] at hS
      refine wp_makeT (.tmp 17) (.tmp 17) rfl N rfl rfl (by omega) ?_
      intro w2 hs hg
      refine FlagPost.two2 ({ s with q3 := w'.heap.size } : G2g) 18 (.slice (some ⟨w'.heap.size, 0, none⟩) N N) 6 _ 21 (.agg #[.slice (some ⟨s.q1, 0, none⟩) N N, .slice (some ⟨w'.heap.size, 0, none⟩) N N, .slice (some ⟨s.q5, 0, none⟩) N N]) rfl rfl rfl ?_ rfl rfl rfl (by decide) d6
      show S2g _ _ (d 1) true (d 5) (d 7) _ _
      rw [d7]
      exact hS.do3 hs hg
    · refine ⟨rfl, Flag.pure (fun _ _ _ h => h) fun d c w' hd hdeps hcl hS => ?_⟩
      skip
      clear hS hdeps hcl hd
      unfold Oper.wp
      go_simp
      exact ⟨rfl, fun t ht => by injection ht with ht; subst ht; rfl, rfl⟩
    · refine ⟨rfl, fun d s w' hd hdeps hcl hS => ?_⟩
      have d6 := hcl.down (k := 6) (j := 5) rfl (by kernel_rfl) hd
      have d7 := hcl.down (k := 7) (j := 6) rfl (by kernel_rfl) d6
      simp only [hd, d7] at hS
      refine wp_makeT (.tmp 19) (.tmp 19) rfl N rfl rfl (by omega) ?_
      intro w2 hs hg
      refine FlagPost.two2 ({ s with q5 := w'.heap.size } : G2g) 20 (.slice (some ⟨w'.heap.size, 0, none⟩) N N) 6 _ 21 (.agg #[.slice (some ⟨s.q1, 0, none⟩) N N, .slice (some ⟨s.q3, 0, none⟩) N N, .slice (some ⟨w'.heap.size, 0, none⟩) N N]) rfl rfl rfl ?_ rfl rfl rfl (by decide) d6
      show S2g _ _ (d 1) (d 3) true (d 7) _ _
      rw [d7]
      exact hS.do5 hs hg
    · refine ⟨rfl, Flag.pure (fun _ _ _ h => h) fun d c w' hd hdeps hcl hS => ?_⟩
      skip
      clear hS hdeps hcl hd
      unfold Oper.wp
      go_simp
      exact ⟨rfl, fun t ht => by injection ht with ht; subst ht; rfl, rfl⟩
    · refine ⟨rfl, fun d s w' hd hdeps hcl hS => ?_⟩
      have d6 := hdeps 6 (by kernel_rfl)
      have d1 := hcl.up (k := 6) (j := 1) rfl (by kernel_rfl) d6
      have d3 := hcl.up (k := 6) (j := 3) rfl (by kernel_rfl) d6
      have d5 := hcl.up (k := 6) (j := 5) rfl (by kernel_rfl) d6
      have d8 := hcl.down (k := 8) (j := 7) rfl (by kernel_rfl) hd
      simp only [d1, d3, d5, hd] at hS
      have hS2 := Lib.hid hS.do7
      clear hS hdeps hcl
      unfold Oper.wp
      go_simp
      refine FlagPost.two ({ s with q7 := w'.heap.size } : G2g) 22 (.pointer (some ⟨w'.heap.size, 0, none⟩)) 8 _ 4 rfl rfl rfl ?_ rfl rfl rfl (by decide) d8
      show S2g _ _ (d 1) (d 3) (d 5) true _ _
      rw [d1, d3, d5]
      exact hS2.out
    · refine ⟨rfl, Flag.pure (fun _ _ _ h => h) fun d c w' hd hdeps hcl hS => ?_⟩
      skip
      clear hS hdeps hcl hd
      unfold Oper.wp
      go_simp
      exact ⟨rfl, fun t ht => by injection ht with ht; subst ht; rfl, rfl⟩
  case hQ =>
    intro fl s we hall hS
    have hS : S2g w N (fl 1) (fl 3) (fl 5) (fl 7) s we := hS
    rw [hall 1 (by decide), hall 3 (by decide), hall 5 (by decide), hall 7 (by decide)] at hS
    clear hall
    obtain ⟨gl, gr, gb, d⟩ := s
    have Hbe := Lib.hid hS.bel
    obtain ⟨_, _, _, hd0, hI⟩ := hS.s7 rfl
    have HI := Lib.hid hI
    have hl0 : w.heap.size ≤ gl := (hS.s1 rfl).2
    have hr0 : w.heap.size ≤ gr := (hS.s3 rfl).2
    have hb0 : w.heap.size ≤ gb := (hS.s5 rfl).2
    clear hS hI
    go_wp2_with fail
    go_loopw [24] (fun t wr => ∃ i : Nat, t = .int .i64 i ∧ i ≤ N ∧ Below w.heap.size w wr ∧ Ide wr d N gl gr gb (lP E i 0) (rP E i 0) (fun _ _ => false)) (fun t _ => N - (intOf t).toNat)
    case atStart => exact ⟨0, rfl, by omega, Hbe.out, HI.out.congr (fun a _ p => (lP_zero E a p).symm) (fun a _ p => (rP_zero E a p).symm) (fun _ _ _ => rfl)⟩
    case round =>
      clear Hbe HI
      obtain ⟨i, rfl, hi, hb', hI'⟩ := hrel
      have Hbe := Lib.hid hb'
      have HI := Lib.hid hI'
      clear hb' hI'
      by_cases hiN : i < N
      · have hiz : (i : Int) < (N : Int) := by omega
        go_wp2_with fail
        go_loopw [28] (fun t wr => ∃ k : Nat, t = .int .i64 k ∧ k ≤ N ∧ Below w.heap.size w wr ∧ Ide wr d N gl gr gb (lP E i k) (rP E i k) (fun _ _ => false)) (fun t _ => N - (intOf t).toNat)
        case atStart => exact ⟨0, rfl, by omega, Hbe.out, HI.out⟩
        case round =>
          clear Hbe HI
          obtain ⟨k, rfl, hk, hb', hI'⟩ := hrel
          have Hbe := Lib.hid hb'
          have HI := Lib.hid hI'
          clear hb' hI'
          by_cases hkN : k < N
          · have hkz : (k : Int) < (N : Int) := by omega
            obtain ⟨p, hp⟩ : ∃ p, p = pix E i k := ⟨_, rfl⟩
            have hpl : p < 320 := by
              rw [hp]
              have := pix_lt Hm.out (i := i) (k := k) (by rw [HN.out]; exact hiN) (by rw [HN.out]; exact hkN)
              have := HE.out
              omega
            have Hp := Lib.hid hp
            clear hp
            go_wp2_with fail
            refine (product_any i k wr (H.out.below Hbe.out (Nat.le_refl _)) HE.out Hm.out (by rw [HN.out]; exact hiN) (by rw [HN.out]; exact hkN)).mono ?_
            rintro e w3 ⟨rfl, hb3⟩
            rw [show ix E (mul (gm E i) (gm E k)) = p from Hp.out.symm]
            have Hb3 := Lib.hid (Hbe.out.trans (hb3.mono Hbe.out.size))
            have HI3 := Lib.hid (HI.out.below hb3 (Nat.le_refl _))
            have e1 := HI3.out.c1
            clear hb3 Hbe HI
            go_wp2_with fail
            refine (put_any w3 HI3.out.r hiN hpl).mono ?_
            rintro e w4 ⟨rfl, hg4, hS4⟩
            have Hb4 := Lib.hid (bel_grown Hb3.out hg4 Hb3.out.size hr0)
            have HI4 := Lib.hid (HI3.out.setR hg4 hS4)
            have e0 := HI4.out.c0
            clear hg4 hS4 Hb3 HI3 e1
            go_wp2_with fail
            refine (put_any w4 HI4.out.l hkN hpl).mono ?_
            rintro e w5 ⟨rfl, hg5, hS5⟩
            have Hb5 := Lib.hid (bel_grown Hb4.out hg5 Hb4.out.size hl0)
            have HI5 : Hid (Ide w5 d N gl gr gb (lP E i (k + 1)) (rP E i (k + 1)) (fun _ _ => false)) := (HI4.out.setL hg5 hS5).congr
              (fun a _ q => by rw [Hp.out]; exact lP_step (by rw [HN.out]; exact hiN) a q) (fun a _ q => by rw [Hp.out]; exact rP_step (by rw [HN.out]; exact hkN) a q) (fun _ _ _ => rfl)
            clear hg5 hS5 Hb4 HI4 e0
            go_wp2_with fail
            go_roundw
            case rel => exact ⟨k + 1, by go_num, by omega, Hb5.out, HI5.out⟩
            case measure => simp [intOf]; omega
          · obtain rfl : k = N := by omega
            have hkz : ¬ ((k : Int) < (k : Int)) := by omega
            have HI5 : Hid (Ide wr d k gl gr gb (lP E (i + 1) 0) (rP E (i + 1) 0) (fun _ _ => false)) := HI.out.congr
              (fun a ha q => by have := lP_row E i (b := a) (by rw [HN.out]; exact ha) q; rwa [HN.out] at this) (fun a ha q => by have := rP_row E i a q; rwa [HN.out] at this) (fun _ _ _ => rfl)
            go_wp2_with fail
            go_roundw
            case rel => exact ⟨i + 1, by go_num, by omega, Hbe.out, HI5.out⟩
            case measure => simp [intOf]; omega
      · obtain rfl : i = N := by omega
        have hiz : ¬ ((i : Int) < (i : Int)) := by omega
        have HI2 : Hid (Ide wr d i gl gr gb (lSet E) (rSet E) (bP E 0 0)) := HI.out.congr
          (fun a ha q => by have := lP_end Hm.out (b := a) (by rw [HN.out]; exact ha) q; rwa [HN.out] at this) (fun a ha q => by have := rP_end Hm.out (a := a) (by rw [HN.out]; exact ha) q; rwa [HN.out] at this) (fun a _ q => (bP_zero E a q).symm)
        clear HI
        go_wp2_with fail
        go_loopw [54] (fun t wr => ∃ a : Nat, t = .int .i64 a ∧ a ≤ i ∧ Below w.heap.size w wr ∧ Ide wr d i gl gr gb (lSet E) (rSet E) (bP E a 0)) (fun t _ => i - (intOf t).toNat)
        case atStart => exact ⟨0, rfl, by omega, Hbe.out, HI2.out⟩
        case round =>
          clear Hbe HI2
          obtain ⟨a, rfl, ha, hb', hI'⟩ := hrel
          have Hbe := Lib.hid hb'
          have HI := Lib.hid hI'
          clear hb' hI'
          by_cases haN : a < i
          · have haz : (a : Int) < (i : Int) := by omega
            go_wp2_with fail
            go_loopw [58] (fun t wr => ∃ k : Nat, t = .int .i64 k ∧ k ≤ i ∧ Below w.heap.size w wr ∧ Ide wr d i gl gr gb (lSet E) (rSet E) (bP E a k)) (fun t _ => i - (intOf t).toNat)
            case atStart => exact ⟨0, rfl, by omega, Hbe.out, HI.out⟩
            case round =>
              clear Hbe HI
              obtain ⟨k, rfl, hk, hb', hI'⟩ := hrel
              have Hbe := Lib.hid hb'
              have HI := Lib.hid hI'
              have e1 := hI'.c1
              clear hb' hI'
              by_cases hkN : k < i
              · have hkz : (k : Int) < (i : Int) := by omega
                have hk3 : k < 320 := by have := HE.out; have := HN.out; omega
                go_wp2_with fail
                refine (has_any wr HI.out.r haN hk3).mono ?_
                rintro e w3 ⟨rfl, rfl⟩
                cases hrs : rSet E a k
                · have HI5 : Hid (Ide wr d i gl gr gb (lSet E) (rSet E) (bP E a (k + 1))) := HI.out.congr (fun _ _ _ => rfl) (fun _ _ _ => rfl) (fun b _ q => bP_skip hrs b q)
                  clear hrs HI e1
                  go_wp2_with fail
                  go_roundw
                  case rel => exact ⟨k + 1, by go_num, by omega, Hbe.out, HI5.out⟩
                  case measure => simp [intOf]; omega
                · have Hrs := Lib.hid hrs
                  have hkE : k < E.length := by rw [HN.out]; exact hkN
                  clear hrs e1
                  go_wp2_with fail
                  refine wp_region_last [] rfl (by kernel_rfl) (by kernel_rfl) (by kernel_rfl) (by kernel_rfl) (fun w' => Below wr.heap.size wr w')
                    (fun w' => ∃ w3, Below wr.heap.size wr w3 ∧ w3.grownBy w' (some gb) ∧ Sts w' gb i fun b q => bP E a k b q || (decide (b = a) && lSet E k q)) _
                    [.pointer (some ⟨d, 0, none⟩), .pointer (some ⟨d, 0, none⟩), .pointer (some ⟨d, 2, none⟩), .slice (some ⟨gb, 0, none⟩) i i, I a, .pointer (some ⟨gb, a * 5, none⟩), .pointer (some ⟨d, 0, none⟩), .pointer (some ⟨d, 0, none⟩), .pointer (some ⟨d, 0, none⟩), .slice (some ⟨gl, 0, none⟩) i i, I k, .pointer (some ⟨gl, k * 5, none⟩), .agg (sc (lSet E k)), .tuple #[]]
                    (by simp only [putAll, List.setIfInBounds_toArray, List.set_cons_succ, List.set_cons_zero]; rfl) (Below.refl _ _).drew 13 _ rfl rfl ?hop ?hst ?hQ
                  case hop =>
                    refine FixBL.toL (fun w' w'' hS hb => hS.trans (hb.mono hS.size)) _ _ ?_
                    refine ⟨.inr ?_, .inr ?_, .inr ?_, .inr ?_, .inr ?_, .inr ?_, .inr ?_, .inr ?_, .inr ?_, .inr ?_, .inr ?_, .inr ?_, .inr ?_, .inl rfl, trivial⟩
                    · (with_reducible refine FixB.of ?_ ?_; rfl; intro w' hS; have s9 := HI.out.below hS (Nat.le_refl _); have s0 := s9.c0; have s2 := s9.c2; have s5 := s9.l.five hkN; clear s9 hS; unfold Oper.wp; go_simp; first | done | exact Below.refl _ _)
                    · (with_reducible refine FixB.of ?_ ?_; rfl; intro w' hS; have s9 := HI.out.below hS (Nat.le_refl _); have s0 := s9.c0; have s2 := s9.c2; have s5 := s9.l.five hkN; clear s9 hS; unfold Oper.wp; go_simp; first | done | exact Below.refl _ _)
                    · (with_reducible refine FixB.of ?_ ?_; rfl; intro w' hS; have s9 := HI.out.below hS (Nat.le_refl _); have s0 := s9.c0; have s2 := s9.c2; have s5 := s9.l.five hkN; clear s9 hS; unfold Oper.wp; go_simp; first | done | exact Below.refl _ _)
                    · (with_reducible refine FixB.of ?_ ?_; rfl; intro w' hS; have s9 := HI.out.below hS (Nat.le_refl _); have s0 := s9.c0; have s2 := s9.c2; have s5 := s9.l.five hkN; clear s9 hS; unfold Oper.wp; go_simp; first | done | exact Below.refl _ _)
                    · (with_reducible refine FixB.of ?_ ?_; rfl; intro w' hS; have s9 := HI.out.below hS (Nat.le_refl _); have s0 := s9.c0; have s2 := s9.c2; have s5 := s9.l.five hkN; clear s9 hS; unfold Oper.wp; go_simp; first | done | exact Below.refl _ _)
                    · (with_reducible refine FixB.of ?_ ?_; rfl; intro w' hS; have s9 := HI.out.below hS (Nat.le_refl _); have s0 := s9.c0; have s2 := s9.c2; have s5 := s9.l.five hkN; clear s9 hS; unfold Oper.wp; go_simp; first | done | exact Below.refl _ _)
                    · (with_reducible refine FixB.of ?_ ?_; rfl; intro w' hS; have s9 := HI.out.below hS (Nat.le_refl _); have s0 := s9.c0; have s2 := s9.c2; have s5 := s9.l.five hkN; clear s9 hS; unfold Oper.wp; go_simp; first | done | exact Below.refl _ _)
                    · (with_reducible refine FixB.of ?_ ?_; rfl; intro w' hS; have s9 := HI.out.below hS (Nat.le_refl _); have s0 := s9.c0; have s2 := s9.c2; have s5 := s9.l.five hkN; clear s9 hS; unfold Oper.wp; go_simp; first | done | exact Below.refl _ _)
                    · (with_reducible refine FixB.of ?_ ?_; rfl; intro w' hS; have s9 := HI.out.below hS (Nat.le_refl _); have s0 := s9.c0; have s2 := s9.c2; have s5 := s9.l.five hkN; clear s9 hS; unfold Oper.wp; go_simp; first | done | exact Below.refl _ _)
                    · (with_reducible refine FixB.of ?_ ?_; rfl; intro w' hS; have s9 := HI.out.below hS (Nat.le_refl _); have s0 := s9.c0; have s2 := s9.c2; have s5 := s9.l.five hkN; clear s9 hS; unfold Oper.wp; go_simp; first | done | exact Below.refl _ _)
                    · (with_reducible refine FixB.of ?_ ?_; rfl; intro w' hS; have s9 := HI.out.below hS (Nat.le_refl _); have s0 := s9.c0; have s2 := s9.c2; have s5 := s9.l.five hkN; clear s9 hS; unfold Oper.wp; go_simp; first | done | exact Below.refl _ _)
                    · (with_reducible refine FixB.of ?_ ?_; rfl; intro w' hS; have s9 := HI.out.below hS (Nat.le_refl _); have s0 := s9.c0; have s2 := s9.c2; have s5 := s9.l.five hkN; clear s9 hS; unfold Oper.wp; go_simp; first | done | exact Below.refl _ _)
                    · (with_reducible refine FixB.of ?_ ?_; rfl; intro w' hS; have s9 := HI.out.below hS (Nat.le_refl _); have s0 := s9.c0; have s2 := s9.c2; have s5 := s9.l.five hkN; clear s9 hS; unfold Oper.wp; go_simp; first | done | exact Below.refl _ _)
                  case hst =>
                    refine ⟨rfl, fun w' hS => ?_⟩
                    have hI2 := Lib.hid (HI.out.below hS (Nat.le_refl _))
                    have Hs := Lib.hid hS
                    clear hS
                    unfold Oper.wp
                    go_simp
                    refine (add_any w' hI2.out.b haN).mono ?_
                    rintro e w4 ⟨rfl, hg, hS4⟩
                    exact ⟨rfl, w', Hs.out, hg, hS4⟩
                  case hQ =>
                    rintro w4 ⟨w3, hb3, hg4, hS4⟩
                    have hb3' := Hbe.out.trans (hb3.mono Hbe.out.size)
                    have Hb5 := Lib.hid (bel_grown hb3' hg4 hb3'.size hb0)
                    have HI5 : Hid (Ide w4 d i gl gr gb (lSet E) (rSet E) (bP E a (k + 1))) := ((HI.out.below hb3 (Nat.le_refl _)).setB hg4 hS4).congr (fun _ _ _ => rfl) (fun _ _ _ => rfl)
                      (fun b _ q => bP_step hkE Hrs.out b q)
                    clear hb3 hb3' hg4 hS4 HI Hbe Hrs
                    go_wp2_with fail
                    go_roundw
                    case rel => exact ⟨k + 1, by go_num, by omega, Hb5.out, HI5.out⟩
                    case measure => simp [intOf]; omega
              · obtain rfl : k = i := by omega
                have hkz : ¬ ((k : Int) < (k : Int)) := by omega
                have HI5 : Hid (Ide wr d k gl gr gb (lSet E) (rSet E) (bP E (a + 1) 0)) := HI.out.congr (fun _ _ _ => rfl) (fun _ _ _ => rfl)
                  (fun b hb q => by have := bP_row E a b q; rwa [HN.out] at this)
                clear e1
                go_wp2_with fail
                go_roundw
                case rel => exact ⟨a + 1, by go_num, by omega, Hbe.out, HI5.out⟩
                case measure => simp [intOf]; omega
          · obtain rfl : a = i := by omega
            have haz : ¬ ((a : Int) < (a : Int)) := by omega
            have HI5 : Hid (IdeAt wr d E) := by
              refine ⟨gl, gr, gb, ?_⟩
              rw [HN.out]
              exact HI.out.congr (fun _ _ _ => rfl) (fun _ _ _ => rfl) (fun b hb q => by have := bP_end Hm.out (a := b) (by rw [HN.out]; exact hb) q; rwa [HN.out] at this)
            clear HI
            go_wp2_with fail
            go_ret
            exact ⟨d, rfl, HI5.out, Hbe.out⟩
set_option maxRecDepth 100000
set_option linter.unusedSimpArgs false
set_option linter.unusedVariables false
theorem beqU (a b : Nat) : (((a : Int)) == ((b : Int))) = (a == b) := by rw [Bool.eq_iff_iff, beq_iff_eq, beq_iff_eq]; omega
abbrev TU : TypeId := 142
theorem run_sizeU (w : World) : Sem.run Tryz.prog (Go.sizeOf TU) w = .ok 1 w := by kernel_rfl
theorem part_u0 (a b c d e : Nat) (w : World) : Sem.run Tryz.prog (Go.part TU #[U a, U b, U c, U d, U e] 0) w = .ok (U a) w := by kernel_rfl
theorem part_u1 (a b c d e : Nat) (w : World) : Sem.run Tryz.prog (Go.part TU #[U a, U b, U c, U d, U e] 1) w = .ok (U b) w := by kernel_rfl
theorem part_u2 (a b c d e : Nat) (w : World) : Sem.run Tryz.prog (Go.part TU #[U a, U b, U c, U d, U e] 2) w = .ok (U c) w := by kernel_rfl
theorem part_u3 (a b c d e : Nat) (w : World) : Sem.run Tryz.prog (Go.part TU #[U a, U b, U c, U d, U e] 3) w = .ok (U d) w := by kernel_rfl
theorem part_u4 (a b c d e : Nat) (w : World) : Sem.run Tryz.prog (Go.part TU #[U a, U b, U c, U d, U e] 4) w = .ok (U e) w := by kernel_rfl
theorem eqSet_run0 (dd : Nat) (a0 a1 a2 a3 a4 b0 b1 b2 b3 b4 : Nat) (w : World) : Sem.run Tryz.prog (Op.equalIn (dd+2) TS (.agg #[U a0, U a1, U a2, U a3, U a4]) (.agg #[U b0, U b1, U b2, U b3, U b4])) w = .ok (a0 == b0 && (a1 == b1 && (a2 == b2 && (a3 == b3 && a4 == b4)))) w := by
  have hI : Tryz.prog.underlying TU = some (.int .u64) := Tryz.underlying142
  have h23 := Tryz.underlying144
  have h0 := beqU a0 b0
  have h1 := beqU a1 b1
  have h2 := beqU a2 b2
  have h3 := beqU a3 b3
  have h4 := beqU a4 b4
  rw [show dd + 2 = (dd+1)+1 from rfl]
  unfold Op.equalIn
  simp only [Sem.run_bind, run_underlying h23, Result.andThen_ok, run_sizeU]
  simp only [Std.Legacy.Range.forIn_eq_forIn_range', Std.Legacy.Range.size, List.range'_succ, List.range'_zero, List.forIn_cons, List.forIn_nil]
  simp [Sem.run_bind, part_u0, part_u1, part_u2, part_u3, part_u4, run_equalIn_int _ dd TU _ _ _ _ hI, h0, h1, h2, h3, h4]
  by_cases h0 : a0 = b0
  · by_cases h1 : a1 = b1
    · by_cases h2 : a2 = b2
      · by_cases h3 : a3 = b3
        · by_cases h4 : a4 = b4 <;> simp [*]
        · simp [*]
      · simp [*]
    · simp [*]
  · simp [*]
theorem eqSet_run (p p' : Nat → Bool) (w : World) : Sem.run Tryz.prog (Op.equalIn 10000 TS (.agg (sc p)) (.agg (sc p'))) w = .ok (setEq p p') w := by
  rw [setEq_wd]
  exact eqSet_run0 9998 _ _ _ _ _ _ _ _ _ _ w
theorem same_full (E : List M) (i k : Nat) : sameK E 2 i k = (sameK E 0 i k && sameK E 1 i k) := by
  rw [sameK_0, sameK_1, sameK_2, Bool.eq_iff_iff, Bool.and_eq_true, decide_eq_true_eq, decide_eq_true_eq, decide_eq_true_eq]
  rfl
theorem same_else {E : List M} {kind : Int} {i k : Nat} (h0 : kind ≠ 0) (h1 : kind ≠ 1) (h2 : kind ≠ 2) : sameK E kind i k = sameK E 3 i k := by
  unfold sameK; simp [h0, h1, h2]
set_option maxHeartbeats 2000000 in
theorem alike_any {d i k : Nat} {n kind : Int} {E : List M} (w : World) (h : IdeAt w d E) (hE : E.length ≤ 300) (hm : Mnd n E) (hi : i < E.length) (hk : k < E.length) :
    Calls Tryz.prog 157 #[.pointer (some ⟨d, 0, none⟩), I i, I k, I kind] w fun e w' => e = .returned (.bool (sameK E kind i k)) ∧ Below w.heap.size w w' := by
  obtain ⟨gl, gr, gb, hI⟩ := h
  obtain ⟨N, hN⟩ : ∃ N, E.length = N := ⟨_, rfl⟩
  have hiE := hi
  have hkE := hk
  rw [hN] at hI hi hk
  have HI := Lib.hid hI
  have HE := Lib.hid hE
  have Hm := Lib.hid hm
  have hiz : (i : Int) < (N : Int) := by omega
  have hkz : (k : Int) < (N : Int) := by omega
  clear hI hE hm hN
  by_cases h0 : kind = 0
  · subst h0
    have hb0 : ((0 : Int) == 0) = true := rfl
    have Hs := Lib.hid (lSet_eq Hm.out HE.out hiE hkE)
    have heq := eqSet_run (lSet E i) (lSet E k)
    obtain ⟨t, ht⟩ : ∃ t, t = setEq (lSet E i) (lSet E k) := ⟨_, rfl⟩
    rw [← ht] at heq
    have Ht := Lib.hid ht
    clear ht
    go_enter Tryz.func157, Tryz.ntmps157
    go_wp2_with fail
    refine wp_region_same [] rfl (by kernel_rfl) (by kernel_rfl) (by kernel_rfl) (fun w' => Below w.heap.size w w') _
      [.pointer (some ⟨d, 0, none⟩), .pointer (some ⟨d, 0, none⟩), .pointer (some ⟨d, 0, none⟩), .slice (some ⟨gl, 0, none⟩) N N, I i, .pointer (some ⟨gl, i * 5, none⟩), .agg (sc (lSet E i)), .pointer (some ⟨d, 0, none⟩), .pointer (some ⟨d, 0, none⟩), .pointer (some ⟨d, 0, none⟩), .slice (some ⟨gl, 0, none⟩) N N, I k, .pointer (some ⟨gl, k * 5, none⟩), .agg (sc (lSet E k)), .bool t, .bool t]
      (by simp only [putAll, List.setIfInBounds_toArray, List.set_cons_succ, List.set_cons_zero]; rfl) (Below.refl _ _).drew ?hop ?hQ
    case hop =>
      refine FixBL.toL (fun w' w'' hS hb => hS.trans (hb.mono hS.size)) _ _ ?_
      refine ⟨.inr ?_, .inr ?_, .inr ?_, .inr ?_, .inr ?_, .inr ?_, .inr ?_, .inr ?_, .inr ?_, .inr ?_, .inr ?_, .inr ?_, .inr ?_, .inr ?_, .inr ?_, .inr ?_, trivial⟩
      · (with_reducible refine FixB.of ?_ ?_; rfl; intro w' hS; have s9 := HI.out.below hS (Nat.le_refl _); have s0 := s9.c0; have s1 := s9.l.five hi; have s2 := s9.l.five hk; clear s9 hS; unfold Oper.wp; go_simp; first | done | exact Below.refl _ _)
      · (with_reducible refine FixB.of ?_ ?_; rfl; intro w' hS; have s9 := HI.out.below hS (Nat.le_refl _); have s0 := s9.c0; have s1 := s9.l.five hi; have s2 := s9.l.five hk; clear s9 hS; unfold Oper.wp; go_simp; first | done | exact Below.refl _ _)
      · (with_reducible refine FixB.of ?_ ?_; rfl; intro w' hS; have s9 := HI.out.below hS (Nat.le_refl _); have s0 := s9.c0; have s1 := s9.l.five hi; have s2 := s9.l.five hk; clear s9 hS; unfold Oper.wp; go_simp; first | done | exact Below.refl _ _)
      · (with_reducible refine FixB.of ?_ ?_; rfl; intro w' hS; have s9 := HI.out.below hS (Nat.le_refl _); have s0 := s9.c0; have s1 := s9.l.five hi; have s2 := s9.l.five hk; clear s9 hS; unfold Oper.wp; go_simp; first | done | exact Below.refl _ _)
      · (with_reducible refine FixB.of ?_ ?_; rfl; intro w' hS; have s9 := HI.out.below hS (Nat.le_refl _); have s0 := s9.c0; have s1 := s9.l.five hi; have s2 := s9.l.five hk; clear s9 hS; unfold Oper.wp; go_simp; first | done | exact Below.refl _ _)
      · (with_reducible refine FixB.of ?_ ?_; rfl; intro w' hS; have s9 := HI.out.below hS (Nat.le_refl _); have s0 := s9.c0; have s1 := s9.l.five hi; have s2 := s9.l.five hk; clear s9 hS; unfold Oper.wp; go_simp; first | done | exact Below.refl _ _)
      · (with_reducible refine FixB.of ?_ ?_; rfl; intro w' hS; have s9 := HI.out.below hS (Nat.le_refl _); have s0 := s9.c0; have s1 := s9.l.five hi; have s2 := s9.l.five hk; clear s9 hS; unfold Oper.wp; go_simp; first | done | exact Below.refl _ _)
      · (with_reducible refine FixB.of ?_ ?_; rfl; intro w' hS; have s9 := HI.out.below hS (Nat.le_refl _); have s0 := s9.c0; have s1 := s9.l.five hi; have s2 := s9.l.five hk; clear s9 hS; unfold Oper.wp; go_simp; first | done | exact Below.refl _ _)
      · (with_reducible refine FixB.of ?_ ?_; rfl; intro w' hS; have s9 := HI.out.below hS (Nat.le_refl _); have s0 := s9.c0; have s1 := s9.l.five hi; have s2 := s9.l.five hk; clear s9 hS; unfold Oper.wp; go_simp; first | done | exact Below.refl _ _)
      · (with_reducible refine FixB.of ?_ ?_; rfl; intro w' hS; have s9 := HI.out.below hS (Nat.le_refl _); have s0 := s9.c0; have s1 := s9.l.five hi; have s2 := s9.l.five hk; clear s9 hS; unfold Oper.wp; go_simp; first | done | exact Below.refl _ _)
      · (with_reducible refine FixB.of ?_ ?_; rfl; intro w' hS; have s9 := HI.out.below hS (Nat.le_refl _); have s0 := s9.c0; have s1 := s9.l.five hi; have s2 := s9.l.five hk; clear s9 hS; unfold Oper.wp; go_simp; first | done | exact Below.refl _ _)
      · (with_reducible refine FixB.of ?_ ?_; rfl; intro w' hS; have s9 := HI.out.below hS (Nat.le_refl _); have s0 := s9.c0; have s1 := s9.l.five hi; have s2 := s9.l.five hk; clear s9 hS; unfold Oper.wp; go_simp; first | done | exact Below.refl _ _)
      · (with_reducible refine FixB.of ?_ ?_; rfl; intro w' hS; have s9 := HI.out.below hS (Nat.le_refl _); have s0 := s9.c0; have s1 := s9.l.five hi; have s2 := s9.l.five hk; clear s9 hS; unfold Oper.wp; go_simp; first | done | exact Below.refl _ _)
      · (with_reducible refine FixB.of ?_ ?_; rfl; intro w' hS; have s9 := HI.out.below hS (Nat.le_refl _); have s0 := s9.c0; have s1 := s9.l.five hi; have s2 := s9.l.five hk; clear s9 hS; unfold Oper.wp; go_simp; first | done | exact Below.refl _ _)
      · (with_reducible refine FixB.of ?_ ?_; rfl; intro w' hS; have s9 := HI.out.below hS (Nat.le_refl _); have s0 := s9.c0; have s1 := s9.l.five hi; have s2 := s9.l.five hk; clear s9 hS; unfold Oper.wp; go_simp; first | done | exact Below.refl _ _)
      · (with_reducible refine FixB.of ?_ ?_; rfl; intro w' hS; have s9 := HI.out.below hS (Nat.le_refl _); have s0 := s9.c0; have s1 := s9.l.five hi; have s2 := s9.l.five hk; clear s9 hS; unfold Oper.wp; go_simp; first | done | exact Below.refl _ _)
    case hQ =>
    intro wc hS _
    have HB2 := Lib.hid hS
    clear hS
    go_wp2
    go_ret
    exact ⟨by rw [← Hs.out, ← Ht.out] <;> rfl, HB2.out⟩
  · have hb0 : (kind == 0) = false := by simpa using h0
    by_cases h1 : kind = 1
    · subst h1
      have Hs := Lib.hid (rSet_eq Hm.out HE.out hiE hkE)
      have heq := eqSet_run (rSet E i) (rSet E k)
      obtain ⟨t, ht⟩ : ∃ t, t = setEq (rSet E i) (rSet E k) := ⟨_, rfl⟩
      rw [← ht] at heq
      have Ht := Lib.hid ht
      clear ht
      go_enter Tryz.func157, Tryz.ntmps157
      go_wp2_with fail
      refine wp_region_same [] rfl (by kernel_rfl) (by kernel_rfl) (by kernel_rfl) (fun w' => Below w.heap.size w w') _
        [.pointer (some ⟨d, 0, none⟩), .pointer (some ⟨d, 0, none⟩), .pointer (some ⟨d, 1, none⟩), .slice (some ⟨gr, 0, none⟩) N N, I i, .pointer (some ⟨gr, i * 5, none⟩), .agg (sc (rSet E i)), .pointer (some ⟨d, 0, none⟩), .pointer (some ⟨d, 0, none⟩), .pointer (some ⟨d, 1, none⟩), .slice (some ⟨gr, 0, none⟩) N N, I k, .pointer (some ⟨gr, k * 5, none⟩), .agg (sc (rSet E k)), .bool t, .bool t]
        (by simp only [putAll, List.setIfInBounds_toArray, List.set_cons_succ, List.set_cons_zero]; rfl) (Below.refl _ _).drew ?hop ?hQ
      case hop =>
        refine FixBL.toL (fun w' w'' hS hb => hS.trans (hb.mono hS.size)) _ _ ?_
        refine ⟨.inr ?_, .inr ?_, .inr ?_, .inr ?_, .inr ?_, .inr ?_, .inr ?_, .inr ?_, .inr ?_, .inr ?_, .inr ?_, .inr ?_, .inr ?_, .inr ?_, .inr ?_, .inr ?_, trivial⟩
        · (with_reducible refine FixB.of ?_ ?_; rfl; intro w' hS; have s9 := HI.out.below hS (Nat.le_refl _); have s0 := s9.c1; have s1 := s9.r.five hi; have s2 := s9.r.five hk; clear s9 hS; unfold Oper.wp; go_simp; first | done | exact Below.refl _ _)
        · (with_reducible refine FixB.of ?_ ?_; rfl; intro w' hS; have s9 := HI.out.below hS (Nat.le_refl _); have s0 := s9.c1; have s1 := s9.r.five hi; have s2 := s9.r.five hk; clear s9 hS; unfold Oper.wp; go_simp; first | done | exact Below.refl _ _)
        · (with_reducible refine FixB.of ?_ ?_; rfl; intro w' hS; have s9 := HI.out.below hS (Nat.le_refl _); have s0 := s9.c1; have s1 := s9.r.five hi; have s2 := s9.r.five hk; clear s9 hS; unfold Oper.wp; go_simp; first | done | exact Below.refl _ _)
        · (with_reducible refine FixB.of ?_ ?_; rfl; intro w' hS; have s9 := HI.out.below hS (Nat.le_refl _); have s0 := s9.c1; have s1 := s9.r.five hi; have s2 := s9.r.five hk; clear s9 hS; unfold Oper.wp; go_simp; first | done | exact Below.refl _ _)
        · (with_reducible refine FixB.of ?_ ?_; rfl; intro w' hS; have s9 := HI.out.below hS (Nat.le_refl _); have s0 := s9.c1; have s1 := s9.r.five hi; have s2 := s9.r.five hk; clear s9 hS; unfold Oper.wp; go_simp; first | done | exact Below.refl _ _)
        · (with_reducible refine FixB.of ?_ ?_; rfl; intro w' hS; have s9 := HI.out.below hS (Nat.le_refl _); have s0 := s9.c1; have s1 := s9.r.five hi; have s2 := s9.r.five hk; clear s9 hS; unfold Oper.wp; go_simp; first | done | exact Below.refl _ _)
        · (with_reducible refine FixB.of ?_ ?_; rfl; intro w' hS; have s9 := HI.out.below hS (Nat.le_refl _); have s0 := s9.c1; have s1 := s9.r.five hi; have s2 := s9.r.five hk; clear s9 hS; unfold Oper.wp; go_simp; first | done | exact Below.refl _ _)
        · (with_reducible refine FixB.of ?_ ?_; rfl; intro w' hS; have s9 := HI.out.below hS (Nat.le_refl _); have s0 := s9.c1; have s1 := s9.r.five hi; have s2 := s9.r.five hk; clear s9 hS; unfold Oper.wp; go_simp; first | done | exact Below.refl _ _)
        · (with_reducible refine FixB.of ?_ ?_; rfl; intro w' hS; have s9 := HI.out.below hS (Nat.le_refl _); have s0 := s9.c1; have s1 := s9.r.five hi; have s2 := s9.r.five hk; clear s9 hS; unfold Oper.wp; go_simp; first | done | exact Below.refl _ _)
        · (with_reducible refine FixB.of ?_ ?_; rfl; intro w' hS; have s9 := HI.out.below hS (Nat.le_refl _); have s0 := s9.c1; have s1 := s9.r.five hi; have s2 := s9.r.five hk; clear s9 hS; unfold Oper.wp; go_simp; first | done | exact Below.refl _ _)
        · (with_reducible refine FixB.of ?_ ?_; rfl; intro w' hS; have s9 := HI.out.below hS (Nat.le_refl _); have s0 := s9.c1; have s1 := s9.r.five hi; have s2 := s9.r.five hk; clear s9 hS; unfold Oper.wp; go_simp; first | done | exact Below.refl _ _)
        · (with_reducible refine FixB.of ?_ ?_; rfl; intro w' hS; have s9 := HI.out.below hS (Nat.le_refl _); have s0 := s9.c1; have s1 := s9.r.five hi; have s2 := s9.r.five hk; clear s9 hS; unfold Oper.wp; go_simp; first | done | exact Below.refl _ _)
        · (with_reducible refine FixB.of ?_ ?_; rfl; intro w' hS; have s9 := HI.out.below hS (Nat.le_refl _); have s0 := s9.c1; have s1 := s9.r.five hi; have s2 := s9.r.five hk; clear s9 hS; unfold Oper.wp; go_simp; first | done | exact Below.refl _ _)
        · (with_reducible refine FixB.of ?_ ?_; rfl; intro w' hS; have s9 := HI.out.below hS (Nat.le_refl _); have s0 := s9.c1; have s1 := s9.r.five hi; have s2 := s9.r.five hk; clear s9 hS; unfold Oper.wp; go_simp; first | done | exact Below.refl _ _)
        · (with_reducible refine FixB.of ?_ ?_; rfl; intro w' hS; have s9 := HI.out.below hS (Nat.le_refl _); have s0 := s9.c1; have s1 := s9.r.five hi; have s2 := s9.r.five hk; clear s9 hS; unfold Oper.wp; go_simp; first | done | exact Below.refl _ _)
        · (with_reducible refine FixB.of ?_ ?_; rfl; intro w' hS; have s9 := HI.out.below hS (Nat.le_refl _); have s0 := s9.c1; have s1 := s9.r.five hi; have s2 := s9.r.five hk; clear s9 hS; unfold Oper.wp; go_simp; first | done | exact Below.refl _ _)
      case hQ =>
      intro wc hS _
      have HB2 := Lib.hid hS
      clear hS
      go_wp2
      go_ret
      exact ⟨by rw [← Hs.out, ← Ht.out] <;> rfl, HB2.out⟩
    · have hb1 : (kind == 1) = false := by simpa using h1
      by_cases h2 : kind = 2
      · subst h2
        have Hs := Lib.hid (lSet_eq Hm.out HE.out hiE hkE)
        have Hs2 := Lib.hid (rSet_eq Hm.out HE.out hiE hkE)
        have heq := eqSet_run (lSet E i) (lSet E k)
        have heq2 := eqSet_run (rSet E i) (rSet E k)
        obtain ⟨t, ht⟩ : ∃ t, t = setEq (lSet E i) (lSet E k) := ⟨_, rfl⟩
        obtain ⟨u, hu⟩ : ∃ u, u = setEq (rSet E i) (rSet E k) := ⟨_, rfl⟩
        rw [← ht] at heq
        rw [← hu] at heq2
        have Ht := Lib.hid ht
        have Hu := Lib.hid hu
        clear ht hu
        cases t
        · clear heq2
          go_enter Tryz.func157, Tryz.ntmps157
          go_wp2_with fail
          refine wp_region_same [] rfl (by kernel_rfl) (by kernel_rfl) (by kernel_rfl) (fun w' => Below w.heap.size w w') _
            [.pointer (some ⟨d, 0, none⟩), .pointer (some ⟨d, 0, none⟩), .pointer (some ⟨d, 0, none⟩), .slice (some ⟨gl, 0, none⟩) N N, I i, .pointer (some ⟨gl, i * 5, none⟩), .agg (sc (lSet E i)), .pointer (some ⟨d, 0, none⟩), .pointer (some ⟨d, 0, none⟩), .pointer (some ⟨d, 0, none⟩), .slice (some ⟨gl, 0, none⟩) N N, I k, .pointer (some ⟨gl, k * 5, none⟩), .agg (sc (lSet E k)), .bool false, .bool false, undef, undef, undef, undef, undef, undef, undef, undef, undef, undef, undef, undef, undef, undef, undef, .bool false, .bool false]
            (by simp only [putAll, List.setIfInBounds_toArray, List.set_cons_succ, List.set_cons_zero]; rfl) (Below.refl _ _).drew ?hop ?hQ
          case hop =>
            refine FixBL.toL (fun w' w'' hS hb => hS.trans (hb.mono hS.size)) _ _ ?_
            refine ⟨.inr ?_, .inr ?_, .inr ?_, .inr ?_, .inr ?_, .inr ?_, .inr ?_, .inr ?_, .inr ?_, .inr ?_, .inr ?_, .inr ?_, .inr ?_, .inr ?_, .inr ?_, .inr ?_, .inr ?_, .inr ?_, .inr ?_, .inr ?_, .inr ?_, .inr ?_, .inr ?_, .inr ?_, .inr ?_, .inr ?_, .inr ?_, .inr ?_, .inr ?_, .inr ?_, .inr ?_, .inr ?_, .inr ?_, trivial⟩
            · (with_reducible refine FixB.of ?_ ?_; rfl; intro w' hS; have s9 := HI.out.below hS (Nat.le_refl _); have s0 := s9.c0; have s1 := s9.l.five hi; have s2 := s9.l.five hk; clear s9 hS; unfold Oper.wp; go_simp; first | done | exact Below.refl _ _)
            · (with_reducible refine FixB.of ?_ ?_; rfl; intro w' hS; have s9 := HI.out.below hS (Nat.le_refl _); have s0 := s9.c0; have s1 := s9.l.five hi; have s2 := s9.l.five hk; clear s9 hS; unfold Oper.wp; go_simp; first | done | exact Below.refl _ _)
            · (with_reducible refine FixB.of ?_ ?_; rfl; intro w' hS; have s9 := HI.out.below hS (Nat.le_refl _); have s0 := s9.c0; have s1 := s9.l.five hi; have s2 := s9.l.five hk; clear s9 hS; unfold Oper.wp; go_simp; first | done | exact Below.refl _ _)
            · (with_reducible refine FixB.of ?_ ?_; rfl; intro w' hS; have s9 := HI.out.below hS (Nat.le_refl _); have s0 := s9.c0; have s1 := s9.l.five hi; have s2 := s9.l.five hk; clear s9 hS; unfold Oper.wp; go_simp; first | done | exact Below.refl _ _)
            · (with_reducible refine FixB.of ?_ ?_; rfl; intro w' hS; have s9 := HI.out.below hS (Nat.le_refl _); have s0 := s9.c0; have s1 := s9.l.five hi; have s2 := s9.l.five hk; clear s9 hS; unfold Oper.wp; go_simp; first | done | exact Below.refl _ _)
            · (with_reducible refine FixB.of ?_ ?_; rfl; intro w' hS; have s9 := HI.out.below hS (Nat.le_refl _); have s0 := s9.c0; have s1 := s9.l.five hi; have s2 := s9.l.five hk; clear s9 hS; unfold Oper.wp; go_simp; first | done | exact Below.refl _ _)
            · (with_reducible refine FixB.of ?_ ?_; rfl; intro w' hS; have s9 := HI.out.below hS (Nat.le_refl _); have s0 := s9.c0; have s1 := s9.l.five hi; have s2 := s9.l.five hk; clear s9 hS; unfold Oper.wp; go_simp; first | done | exact Below.refl _ _)
            · (with_reducible refine FixB.of ?_ ?_; rfl; intro w' hS; have s9 := HI.out.below hS (Nat.le_refl _); have s0 := s9.c0; have s1 := s9.l.five hi; have s2 := s9.l.five hk; clear s9 hS; unfold Oper.wp; go_simp; first | done | exact Below.refl _ _)
            · (with_reducible refine FixB.of ?_ ?_; rfl; intro w' hS; have s9 := HI.out.below hS (Nat.le_refl _); have s0 := s9.c0; have s1 := s9.l.five hi; have s2 := s9.l.five hk; clear s9 hS; unfold Oper.wp; go_simp; first | done | exact Below.refl _ _)
            · (with_reducible refine FixB.of ?_ ?_; rfl; intro w' hS; have s9 := HI.out.below hS (Nat.le_refl _); have s0 := s9.c0; have s1 := s9.l.five hi; have s2 := s9.l.five hk; clear s9 hS; unfold Oper.wp; go_simp; first | done | exact Below.refl _ _)
            · (with_reducible refine FixB.of ?_ ?_; rfl; intro w' hS; have s9 := HI.out.below hS (Nat.le_refl _); have s0 := s9.c0; have s1 := s9.l.five hi; have s2 := s9.l.five hk; clear s9 hS; unfold Oper.wp; go_simp; first | done | exact Below.refl _ _)
            · (with_reducible refine FixB.of ?_ ?_; rfl; intro w' hS; have s9 := HI.out.below hS (Nat.le_refl _); have s0 := s9.c0; have s1 := s9.l.five hi; have s2 := s9.l.five hk; clear s9 hS; unfold Oper.wp; go_simp; first | done | exact Below.refl _ _)
            · (with_reducible refine FixB.of ?_ ?_; rfl; intro w' hS; have s9 := HI.out.below hS (Nat.le_refl _); have s0 := s9.c0; have s1 := s9.l.five hi; have s2 := s9.l.five hk; clear s9 hS; unfold Oper.wp; go_simp; first | done | exact Below.refl _ _)
            · (with_reducible refine FixB.of ?_ ?_; rfl; intro w' hS; have s9 := HI.out.below hS (Nat.le_refl _); have s0 := s9.c0; have s1 := s9.l.five hi; have s2 := s9.l.five hk; clear s9 hS; unfold Oper.wp; go_simp; first | done | exact Below.refl _ _)
            · (with_reducible refine FixB.of ?_ ?_; rfl; intro w' hS; have s9 := HI.out.below hS (Nat.le_refl _); have s0 := s9.c0; have s1 := s9.l.five hi; have s2 := s9.l.five hk; clear s9 hS; unfold Oper.wp; go_simp; first | done | exact Below.refl _ _)
            · (with_reducible refine FixB.of ?_ ?_; rfl; intro w' hS; have s9 := HI.out.below hS (Nat.le_refl _); have s0 := s9.c0; have s1 := s9.l.five hi; have s2 := s9.l.five hk; clear s9 hS; unfold Oper.wp; go_simp; first | done | exact Below.refl _ _)
            · exact FixB.off (by first | rfl | kernel_rfl | (simp [Region.wanted, yielded]; done)) rfl
            · exact FixB.off (by first | rfl | kernel_rfl | (simp [Region.wanted, yielded]; done)) rfl
            · exact FixB.off (by first | rfl | kernel_rfl | (simp [Region.wanted, yielded]; done)) rfl
            · exact FixB.off (by first | rfl | kernel_rfl | (simp [Region.wanted, yielded]; done)) rfl
            · exact FixB.off (by first | rfl | kernel_rfl | (simp [Region.wanted, yielded]; done)) rfl
            · exact FixB.off (by first | rfl | kernel_rfl | (simp [Region.wanted, yielded]; done)) rfl
            · exact FixB.off (by first | rfl | kernel_rfl | (simp [Region.wanted, yielded]; done)) rfl
            · exact FixB.off (by first | rfl | kernel_rfl | (simp [Region.wanted, yielded]; done)) rfl
            · exact FixB.off (by first | rfl | kernel_rfl | (simp [Region.wanted, yielded]; done)) rfl
            · exact FixB.off (by first | rfl | kernel_rfl | (simp [Region.wanted, yielded]; done)) rfl
            · exact FixB.off (by first | rfl | kernel_rfl | (simp [Region.wanted, yielded]; done)) rfl
            · exact FixB.off (by first | rfl | kernel_rfl | (simp [Region.wanted, yielded]; done)) rfl
            · exact FixB.off (by first | rfl | kernel_rfl | (simp [Region.wanted, yielded]; done)) rfl
            · exact FixB.off (by first | rfl | kernel_rfl | (simp [Region.wanted, yielded]; done)) rfl
            · exact FixB.off (by first | rfl | kernel_rfl | (simp [Region.wanted, yielded]; done)) rfl
            · (with_reducible refine FixB.of ?_ ?_; rfl; intro w' hS; have s9 := HI.out.below hS (Nat.le_refl _); have s0 := s9.c0; have s1 := s9.l.five hi; have s2 := s9.l.five hk; clear s9 hS; unfold Oper.wp; go_simp; first | done | exact Below.refl _ _)
            · (with_reducible refine FixB.of ?_ ?_; rfl; intro w' hS; have s9 := HI.out.below hS (Nat.le_refl _); have s0 := s9.c0; have s1 := s9.l.five hi; have s2 := s9.l.five hk; clear s9 hS; unfold Oper.wp; go_simp; first | done | exact Below.refl _ _)
          case hQ =>
          intro wc hS _
          have HB2 := Lib.hid hS
          clear hS
          go_wp2
          go_ret
          exact ⟨by rw [same_full, ← Hs.out, ← Ht.out] <;> rfl, HB2.out⟩
        · go_enter Tryz.func157, Tryz.ntmps157
          go_wp2_with fail
          refine wp_region_same [] rfl (by kernel_rfl) (by kernel_rfl) (by kernel_rfl) (fun w' => Below w.heap.size w w') _
            [.pointer (some ⟨d, 0, none⟩), .pointer (some ⟨d, 0, none⟩), .pointer (some ⟨d, 0, none⟩), .slice (some ⟨gl, 0, none⟩) N N, I i, .pointer (some ⟨gl, i * 5, none⟩), .agg (sc (lSet E i)), .pointer (some ⟨d, 0, none⟩), .pointer (some ⟨d, 0, none⟩), .pointer (some ⟨d, 0, none⟩), .slice (some ⟨gl, 0, none⟩) N N, I k, .pointer (some ⟨gl, k * 5, none⟩), .agg (sc (lSet E k)), .bool true, .bool true, .pointer (some ⟨d, 0, none⟩), .pointer (some ⟨d, 0, none⟩), .pointer (some ⟨d, 1, none⟩), .slice (some ⟨gr, 0, none⟩) N N, I i, .pointer (some ⟨gr, i * 5, none⟩), .agg (sc (rSet E i)), .pointer (some ⟨d, 0, none⟩), .pointer (some ⟨d, 0, none⟩), .pointer (some ⟨d, 1, none⟩), .slice (some ⟨gr, 0, none⟩) N N, I k, .pointer (some ⟨gr, k * 5, none⟩), .agg (sc (rSet E k)), .bool u, .bool u, .bool u]
            (by simp only [putAll, List.setIfInBounds_toArray, List.set_cons_succ, List.set_cons_zero]; rfl) (Below.refl _ _).drew ?hop ?hQ
          case hop =>
            refine FixBL.toL (fun w' w'' hS hb => hS.trans (hb.mono hS.size)) _ _ ?_
            refine ⟨.inr ?_, .inr ?_, .inr ?_, .inr ?_, .inr ?_, .inr ?_, .inr ?_, .inr ?_, .inr ?_, .inr ?_, .inr ?_, .inr ?_, .inr ?_, .inr ?_, .inr ?_, .inr ?_, .inr ?_, .inr ?_, .inr ?_, .inr ?_, .inr ?_, .inr ?_, .inr ?_, .inr ?_, .inr ?_, .inr ?_, .inr ?_, .inr ?_, .inr ?_, .inr ?_, .inr ?_, .inr ?_, .inr ?_, trivial⟩
            · (with_reducible refine FixB.of ?_ ?_; rfl; intro w' hS; have s9 := HI.out.below hS (Nat.le_refl _); have s0 := s9.c0; have s10 := s9.c1; have s1 := s9.l.five hi; have s2 := s9.l.five hk; have s3 := s9.r.five hi; have s4 := s9.r.five hk; clear s9 hS; unfold Oper.wp; go_simp; first | done | exact Below.refl _ _)
            · (with_reducible refine FixB.of ?_ ?_; rfl; intro w' hS; have s9 := HI.out.below hS (Nat.le_refl _); have s0 := s9.c0; have s10 := s9.c1; have s1 := s9.l.five hi; have s2 := s9.l.five hk; have s3 := s9.r.five hi; have s4 := s9.r.five hk; clear s9 hS; unfold Oper.wp; go_simp; first | done | exact Below.refl _ _)
            · (with_reducible refine FixB.of ?_ ?_; rfl; intro w' hS; have s9 := HI.out.below hS (Nat.le_refl _); have s0 := s9.c0; have s10 := s9.c1; have s1 := s9.l.five hi; have s2 := s9.l.five hk; have s3 := s9.r.five hi; have s4 := s9.r.five hk; clear s9 hS; unfold Oper.wp; go_simp; first | done | exact Below.refl _ _)
            · (with_reducible refine FixB.of ?_ ?_; rfl; intro w' hS; have s9 := HI.out.below hS (Nat.le_refl _); have s0 := s9.c0; have s10 := s9.c1; have s1 := s9.l.five hi; have s2 := s9.l.five hk; have s3 := s9.r.five hi; have s4 := s9.r.five hk; clear s9 hS; unfold Oper.wp; go_simp; first | done | exact Below.refl _ _)
            · (with_reducible refine FixB.of ?_ ?_; rfl; intro w' hS; have s9 := HI.out.below hS (Nat.le_refl _); have s0 := s9.c0; have s10 := s9.c1; have s1 := s9.l.five hi; have s2 := s9.l.five hk; have s3 := s9.r.five hi; have s4 := s9.r.five hk; clear s9 hS; unfold Oper.wp; go_simp; first | done | exact Below.refl _ _)
            · (with_reducible refine FixB.of ?_ ?_; rfl; intro w' hS; have s9 := HI.out.below hS (Nat.le_refl _); have s0 := s9.c0; have s10 := s9.c1; have s1 := s9.l.five hi; have s2 := s9.l.five hk; have s3 := s9.r.five hi; have s4 := s9.r.five hk; clear s9 hS; unfold Oper.wp; go_simp; first | done | exact Below.refl _ _)
            · (with_reducible refine FixB.of ?_ ?_; rfl; intro w' hS; have s9 := HI.out.below hS (Nat.le_refl _); have s0 := s9.c0; have s10 := s9.c1; have s1 := s9.l.five hi; have s2 := s9.l.five hk; have s3 := s9.r.five hi; have s4 := s9.r.five hk; clear s9 hS; unfold Oper.wp; go_simp; first | done | exact Below.refl _ _)
            · (with_reducible refine FixB.of ?_ ?_; rfl; intro w' hS; have s9 := HI.out.below hS (Nat.le_refl _); have s0 := s9.c0; have s10 := s9.c1; have s1 := s9.l.five hi; have s2 := s9.l.five hk; have s3 := s9.r.five hi; have s4 := s9.r.five hk; clear s9 hS; unfold Oper.wp; go_simp; first | done | exact Below.refl _ _)
            · (with_reducible refine FixB.of ?_ ?_; rfl; intro w' hS; have s9 := HI.out.below hS (Nat.le_refl _); have s0 := s9.c0; have s10 := s9.c1; have s1 := s9.l.five hi; have s2 := s9.l.five hk; have s3 := s9.r.five hi; have s4 := s9.r.five hk; clear s9 hS; unfold Oper.wp; go_simp; first | done | exact Below.refl _ _)
            · (with_reducible refine FixB.of ?_ ?_; rfl; intro w' hS; have s9 := HI.out.below hS (Nat.le_refl _); have s0 := s9.c0; have s10 := s9.c1; have s1 := s9.l.five hi; have s2 := s9.l.five hk; have s3 := s9.r.five hi; have s4 := s9.r.five hk; clear s9 hS; unfold Oper.wp; go_simp; first | done | exact Below.refl _ _)
            · (with_reducible refine FixB.of ?_ ?_; rfl; intro w' hS; have s9 := HI.out.below hS (Nat.le_refl _); have s0 := s9.c0; have s10 := s9.c1; have s1 := s9.l.five hi; have s2 := s9.l.five hk; have s3 := s9.r.five hi; have s4 := s9.r.five hk; clear s9 hS; unfold Oper.wp; go_simp; first | done | exact Below.refl _ _)
            · (with_reducible refine FixB.of ?_ ?_; rfl; intro w' hS; have s9 := HI.out.below hS (Nat.le_refl _); have s0 := s9.c0; have s10 := s9.c1; have s1 := s9.l.five hi; have s2 := s9.l.five hk; have s3 := s9.r.five hi; have s4 := s9.r.five hk; clear s9 hS; unfold Oper.wp; go_simp; first | done | exact Below.refl _ _)
            · (with_reducible refine FixB.of ?_ ?_; rfl; intro w' hS; have s9 := HI.out.below hS (Nat.le_refl _); have s0 := s9.c0; have s10 := s9.c1; have s1 := s9.l.five hi; have s2 := s9.l.five hk; have s3 := s9.r.five hi; have s4 := s9.r.five hk; clear s9 hS; unfold Oper.wp; go_simp; first | done | exact Below.refl _ _)
            · (with_reducible refine FixB.of ?_ ?_; rfl; intro w' hS; have s9 := HI.out.below hS (Nat.le_refl _); have s0 := s9.c0; have s10 := s9.c1; have s1 := s9.l.five hi; have s2 := s9.l.five hk; have s3 := s9.r.five hi; have s4 := s9.r.five hk; clear s9 hS; unfold Oper.wp; go_simp; first | done | exact Below.refl _ _)
            · (with_reducible refine FixB.of ?_ ?_; rfl; intro w' hS; have s9 := HI.out.below hS (Nat.le_refl _); have s0 := s9.c0; have s10 := s9.c1; have s1 := s9.l.five hi; have s2 := s9.l.five hk; have s3 := s9.r.five hi; have s4 := s9.r.five hk; clear s9 hS; unfold Oper.wp; go_simp; first | done | exact Below.refl _ _)
            · (with_reducible refine FixB.of ?_ ?_; rfl; intro w' hS; have s9 := HI.out.below hS (Nat.le_refl _); have s0 := s9.c0; have s10 := s9.c1; have s1 := s9.l.five hi; have s2 := s9.l.five hk; have s3 := s9.r.five hi; have s4 := s9.r.five hk; clear s9 hS; unfold Oper.wp; go_simp; first | done | exact Below.refl _ _)
            · (refine FixB.on (by first | rfl | kernel_rfl | (simp [Region.wanted, yielded]; done)) ?_; intro w' hS; have s9 := HI.out.below hS (Nat.le_refl _); have s0 := s9.c0; have s10 := s9.c1; have s1 := s9.l.five hi; have s2 := s9.l.five hk; have s3 := s9.r.five hi; have s4 := s9.r.five hk; clear s9 hS; unfold Oper.wp; go_simp; first | done | exact Below.refl _ _)
            · (refine FixB.on (by first | rfl | kernel_rfl | (simp [Region.wanted, yielded]; done)) ?_; intro w' hS; have s9 := HI.out.below hS (Nat.le_refl _); have s0 := s9.c0; have s10 := s9.c1; have s1 := s9.l.five hi; have s2 := s9.l.five hk; have s3 := s9.r.five hi; have s4 := s9.r.five hk; clear s9 hS; unfold Oper.wp; go_simp; first | done | exact Below.refl _ _)
            · (refine FixB.on (by first | rfl | kernel_rfl | (simp [Region.wanted, yielded]; done)) ?_; intro w' hS; have s9 := HI.out.below hS (Nat.le_refl _); have s0 := s9.c0; have s10 := s9.c1; have s1 := s9.l.five hi; have s2 := s9.l.five hk; have s3 := s9.r.five hi; have s4 := s9.r.five hk; clear s9 hS; unfold Oper.wp; go_simp; first | done | exact Below.refl _ _)
            · (refine FixB.on (by first | rfl | kernel_rfl | (simp [Region.wanted, yielded]; done)) ?_; intro w' hS; have s9 := HI.out.below hS (Nat.le_refl _); have s0 := s9.c0; have s10 := s9.c1; have s1 := s9.l.five hi; have s2 := s9.l.five hk; have s3 := s9.r.five hi; have s4 := s9.r.five hk; clear s9 hS; unfold Oper.wp; go_simp; first | done | exact Below.refl _ _)
            · (refine FixB.on (by first | rfl | kernel_rfl | (simp [Region.wanted, yielded]; done)) ?_; intro w' hS; have s9 := HI.out.below hS (Nat.le_refl _); have s0 := s9.c0; have s10 := s9.c1; have s1 := s9.l.five hi; have s2 := s9.l.five hk; have s3 := s9.r.five hi; have s4 := s9.r.five hk; clear s9 hS; unfold Oper.wp; go_simp; first | done | exact Below.refl _ _)
            · (refine FixB.on (by first | rfl | kernel_rfl | (simp [Region.wanted, yielded]; done)) ?_; intro w' hS; have s9 := HI.out.below hS (Nat.le_refl _); have s0 := s9.c0; have s10 := s9.c1; have s1 := s9.l.five hi; have s2 := s9.l.five hk; have s3 := s9.r.five hi; have s4 := s9.r.five hk; clear s9 hS; unfold Oper.wp; go_simp; first | done | exact Below.refl _ _)
            · (refine FixB.on (by first | rfl | kernel_rfl | (simp [Region.wanted, yielded]; done)) ?_; intro w' hS; have s9 := HI.out.below hS (Nat.le_refl _); have s0 := s9.c0; have s10 := s9.c1; have s1 := s9.l.five hi; have s2 := s9.l.five hk; have s3 := s9.r.five hi; have s4 := s9.r.five hk; clear s9 hS; unfold Oper.wp; go_simp; first | done | exact Below.refl _ _)
            · (refine FixB.on (by first | rfl | kernel_rfl | (simp [Region.wanted, yielded]; done)) ?_; intro w' hS; have s9 := HI.out.below hS (Nat.le_refl _); have s0 := s9.c0; have s10 := s9.c1; have s1 := s9.l.five hi; have s2 := s9.l.five hk; have s3 := s9.r.five hi; have s4 := s9.r.five hk; clear s9 hS; unfold Oper.wp; go_simp; first | done | exact Below.refl _ _)
            · (refine FixB.on (by first | rfl | kernel_rfl | (simp [Region.wanted, yielded]; done)) ?_; intro w' hS; have s9 := HI.out.below hS (Nat.le_refl _); have s0 := s9.c0; have s10 := s9.c1; have s1 := s9.l.five hi; have s2 := s9.l.five hk; have s3 := s9.r.five hi; have s4 := s9.r.five hk; clear s9 hS; unfold Oper.wp; go_simp; first | done | exact Below.refl _ _)
            · (refine FixB.on (by first | rfl | kernel_rfl | (simp [Region.wanted, yielded]; done)) ?_; intro w' hS; have s9 := HI.out.below hS (Nat.le_refl _); have s0 := s9.c0; have s10 := s9.c1; have s1 := s9.l.five hi; have s2 := s9.l.five hk; have s3 := s9.r.five hi; have s4 := s9.r.five hk; clear s9 hS; unfold Oper.wp; go_simp; first | done | exact Below.refl _ _)
            · (refine FixB.on (by first | rfl | kernel_rfl | (simp [Region.wanted, yielded]; done)) ?_; intro w' hS; have s9 := HI.out.below hS (Nat.le_refl _); have s0 := s9.c0; have s10 := s9.c1; have s1 := s9.l.five hi; have s2 := s9.l.five hk; have s3 := s9.r.five hi; have s4 := s9.r.five hk; clear s9 hS; unfold Oper.wp; go_simp; first | done | exact Below.refl _ _)
            · (refine FixB.on (by first | rfl | kernel_rfl | (simp [Region.wanted, yielded]; done)) ?_; intro w' hS; have s9 := HI.out.below hS (Nat.le_refl _); have s0 := s9.c0; have s10 := s9.c1; have s1 := s9.l.five hi; have s2 := s9.l.five hk; have s3 := s9.r.five hi; have s4 := s9.r.five hk; clear s9 hS; unfold Oper.wp; go_simp; first | done | exact Below.refl _ _)
            · (refine FixB.on (by first | rfl | kernel_rfl | (simp [Region.wanted, yielded]; done)) ?_; intro w' hS; have s9 := HI.out.below hS (Nat.le_refl _); have s0 := s9.c0; have s10 := s9.c1; have s1 := s9.l.five hi; have s2 := s9.l.five hk; have s3 := s9.r.five hi; have s4 := s9.r.five hk; clear s9 hS; unfold Oper.wp; go_simp; first | done | exact Below.refl _ _)
            · (refine FixB.on (by first | rfl | kernel_rfl | (simp [Region.wanted, yielded]; done)) ?_; intro w' hS; have s9 := HI.out.below hS (Nat.le_refl _); have s0 := s9.c0; have s10 := s9.c1; have s1 := s9.l.five hi; have s2 := s9.l.five hk; have s3 := s9.r.five hi; have s4 := s9.r.five hk; clear s9 hS; unfold Oper.wp; go_simp; first | done | exact Below.refl _ _)
            · (refine FixB.on (by first | rfl | kernel_rfl | (simp [Region.wanted, yielded]; done)) ?_; intro w' hS; have s9 := HI.out.below hS (Nat.le_refl _); have s0 := s9.c0; have s10 := s9.c1; have s1 := s9.l.five hi; have s2 := s9.l.five hk; have s3 := s9.r.five hi; have s4 := s9.r.five hk; clear s9 hS; unfold Oper.wp; go_simp; first | done | exact Below.refl _ _)
            · (with_reducible refine FixB.of ?_ ?_; rfl; intro w' hS; have s9 := HI.out.below hS (Nat.le_refl _); have s0 := s9.c0; have s10 := s9.c1; have s1 := s9.l.five hi; have s2 := s9.l.five hk; have s3 := s9.r.five hi; have s4 := s9.r.five hk; clear s9 hS; unfold Oper.wp; go_simp; first | done | exact Below.refl _ _)
            · (with_reducible refine FixB.of ?_ ?_; rfl; intro w' hS; have s9 := HI.out.below hS (Nat.le_refl _); have s0 := s9.c0; have s10 := s9.c1; have s1 := s9.l.five hi; have s2 := s9.l.five hk; have s3 := s9.r.five hi; have s4 := s9.r.five hk; clear s9 hS; unfold Oper.wp; go_simp; first | done | exact Below.refl _ _)
          case hQ =>
          intro wc hS _
          have HB2 := Lib.hid hS
          clear hS
          go_wp2
          go_ret
          exact ⟨by rw [same_full, ← Hs.out, ← Ht.out, ← Hs2.out, ← Hu.out] <;> rfl, HB2.out⟩
      · have hb2 : (kind == 2) = false := by simpa using h2
        have Hk := Lib.hid (same_else (E := E) (i := i) (k := k) h0 h1 h2)
        have Hs := Lib.hid (jSet_eq Hm.out HE.out hiE hkE)
        have heq := eqSet_run (jSet E i) (jSet E k)
        obtain ⟨t, ht⟩ : ∃ t, t = setEq (jSet E i) (jSet E k) := ⟨_, rfl⟩
        rw [← ht] at heq
        have Ht := Lib.hid ht
        clear ht h0 h1 h2
        go_enter Tryz.func157, Tryz.ntmps157
        go_wp2_with fail
        refine wp_region_same [] rfl (by kernel_rfl) (by kernel_rfl) (by kernel_rfl) (fun w' => Below w.heap.size w w') _
          [.pointer (some ⟨d, 0, none⟩), .pointer (some ⟨d, 0, none⟩), .pointer (some ⟨d, 2, none⟩), .slice (some ⟨gb, 0, none⟩) N N, I i, .pointer (some ⟨gb, i * 5, none⟩), .agg (sc (jSet E i)), .pointer (some ⟨d, 0, none⟩), .pointer (some ⟨d, 0, none⟩), .pointer (some ⟨d, 2, none⟩), .slice (some ⟨gb, 0, none⟩) N N, I k, .pointer (some ⟨gb, k * 5, none⟩), .agg (sc (jSet E k)), .bool t, .bool t]
          (by simp only [putAll, List.setIfInBounds_toArray, List.set_cons_succ, List.set_cons_zero]; rfl) (Below.refl _ _).drew ?hop ?hQ
        case hop =>
          refine FixBL.toL (fun w' w'' hS hb => hS.trans (hb.mono hS.size)) _ _ ?_
          refine ⟨.inr ?_, .inr ?_, .inr ?_, .inr ?_, .inr ?_, .inr ?_, .inr ?_, .inr ?_, .inr ?_, .inr ?_, .inr ?_, .inr ?_, .inr ?_, .inr ?_, .inr ?_, .inr ?_, trivial⟩
          · (with_reducible refine FixB.of ?_ ?_; rfl; intro w' hS; have s9 := HI.out.below hS (Nat.le_refl _); have s0 := s9.c2; have s1 := s9.b.five hi; have s2 := s9.b.five hk; clear s9 hS; unfold Oper.wp; go_simp; first | done | exact Below.refl _ _)
          · (with_reducible refine FixB.of ?_ ?_; rfl; intro w' hS; have s9 := HI.out.below hS (Nat.le_refl _); have s0 := s9.c2; have s1 := s9.b.five hi; have s2 := s9.b.five hk; clear s9 hS; unfold Oper.wp; go_simp; first | done | exact Below.refl _ _)
          · (with_reducible refine FixB.of ?_ ?_; rfl; intro w' hS; have s9 := HI.out.below hS (Nat.le_refl _); have s0 := s9.c2; have s1 := s9.b.five hi; have s2 := s9.b.five hk; clear s9 hS; unfold Oper.wp; go_simp; first | done | exact Below.refl _ _)
          · (with_reducible refine FixB.of ?_ ?_; rfl; intro w' hS; have s9 := HI.out.below hS (Nat.le_refl _); have s0 := s9.c2; have s1 := s9.b.five hi; have s2 := s9.b.five hk; clear s9 hS; unfold Oper.wp; go_simp; first | done | exact Below.refl _ _)
          · (with_reducible refine FixB.of ?_ ?_; rfl; intro w' hS; have s9 := HI.out.below hS (Nat.le_refl _); have s0 := s9.c2; have s1 := s9.b.five hi; have s2 := s9.b.five hk; clear s9 hS; unfold Oper.wp; go_simp; first | done | exact Below.refl _ _)
          · (with_reducible refine FixB.of ?_ ?_; rfl; intro w' hS; have s9 := HI.out.below hS (Nat.le_refl _); have s0 := s9.c2; have s1 := s9.b.five hi; have s2 := s9.b.five hk; clear s9 hS; unfold Oper.wp; go_simp; first | done | exact Below.refl _ _)
          · (with_reducible refine FixB.of ?_ ?_; rfl; intro w' hS; have s9 := HI.out.below hS (Nat.le_refl _); have s0 := s9.c2; have s1 := s9.b.five hi; have s2 := s9.b.five hk; clear s9 hS; unfold Oper.wp; go_simp; first | done | exact Below.refl _ _)
          · (with_reducible refine FixB.of ?_ ?_; rfl; intro w' hS; have s9 := HI.out.below hS (Nat.le_refl _); have s0 := s9.c2; have s1 := s9.b.five hi; have s2 := s9.b.five hk; clear s9 hS; unfold Oper.wp; go_simp; first | done | exact Below.refl _ _)
          · (with_reducible refine FixB.of ?_ ?_; rfl; intro w' hS; have s9 := HI.out.below hS (Nat.le_refl _); have s0 := s9.c2; have s1 := s9.b.five hi; have s2 := s9.b.five hk; clear s9 hS; unfold Oper.wp; go_simp; first | done | exact Below.refl _ _)
          · (with_reducible refine FixB.of ?_ ?_; rfl; intro w' hS; have s9 := HI.out.below hS (Nat.le_refl _); have s0 := s9.c2; have s1 := s9.b.five hi; have s2 := s9.b.five hk; clear s9 hS; unfold Oper.wp; go_simp; first | done | exact Below.refl _ _)
          · (with_reducible refine FixB.of ?_ ?_; rfl; intro w' hS; have s9 := HI.out.below hS (Nat.le_refl _); have s0 := s9.c2; have s1 := s9.b.five hi; have s2 := s9.b.five hk; clear s9 hS; unfold Oper.wp; go_simp; first | done | exact Below.refl _ _)
          · (with_reducible refine FixB.of ?_ ?_; rfl; intro w' hS; have s9 := HI.out.below hS (Nat.le_refl _); have s0 := s9.c2; have s1 := s9.b.five hi; have s2 := s9.b.five hk; clear s9 hS; unfold Oper.wp; go_simp; first | done | exact Below.refl _ _)
          · (with_reducible refine FixB.of ?_ ?_; rfl; intro w' hS; have s9 := HI.out.below hS (Nat.le_refl _); have s0 := s9.c2; have s1 := s9.b.five hi; have s2 := s9.b.five hk; clear s9 hS; unfold Oper.wp; go_simp; first | done | exact Below.refl _ _)
          · (with_reducible refine FixB.of ?_ ?_; rfl; intro w' hS; have s9 := HI.out.below hS (Nat.le_refl _); have s0 := s9.c2; have s1 := s9.b.five hi; have s2 := s9.b.five hk; clear s9 hS; unfold Oper.wp; go_simp; first | done | exact Below.refl _ _)
          · (with_reducible refine FixB.of ?_ ?_; rfl; intro w' hS; have s9 := HI.out.below hS (Nat.le_refl _); have s0 := s9.c2; have s1 := s9.b.five hi; have s2 := s9.b.five hk; clear s9 hS; unfold Oper.wp; go_simp; first | done | exact Below.refl _ _)
          · (with_reducible refine FixB.of ?_ ?_; rfl; intro w' hS; have s9 := HI.out.below hS (Nat.le_refl _); have s0 := s9.c2; have s1 := s9.b.five hi; have s2 := s9.b.five hk; clear s9 hS; unfold Oper.wp; go_simp; first | done | exact Below.refl _ _)
        case hQ =>
        intro wc hS _
        have HB2 := Lib.hid hS
        clear hS
        go_wp2
        go_ret
        exact ⟨by rw [Hk.out, ← Hs.out, ← Ht.out] <;> rfl, HB2.out⟩
end Go.Proofs.YtkbfocoaobiijaaGreat
