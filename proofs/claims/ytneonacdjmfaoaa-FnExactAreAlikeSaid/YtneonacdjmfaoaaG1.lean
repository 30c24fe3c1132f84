/- Rows of sets in memory, and the contracts of a set's own methods; the numbers put and asked lie below 320. -/
import Derived.Test.YtneonacdjmfaoaaNE
import Derived.Laws.BitsLemmas
namespace Go.Proofs.Ytneonacdjmfaoaa
open Go.RowKit
set_option maxRecDepth 100000
set_option linter.unusedSimpArgs false
set_option linter.unusedVariables false

abbrev TS : TypeId := 117
/-- a row of n sets stands in block g: their words are W -/
def Wds (w : World) (g n : Nat) (W : Nat → Nat → Nat) : Prop := ∃ cur : Array Value, Blk w g TS cur ∧ cur.size = n * 5 ∧ ∀ i, i < n → ∀ j, j < 5 → cur[i * 5 + j]? = some (U (W i j))
abbrev Sts (w : World) (g n : Nat) (P : Nat → Nat → Bool) : Prop := Wds w g n fun i j => wd (P i) j
section
variable {w w' : World} {g n : Nat} {W W' : Nat → Nat → Nat}
theorem Wds.lt (h : Wds w g n W) : g < w.heap.size := by obtain ⟨_, h, _⟩ := h; exact h.lt
theorem Wds.below {B : Nat} (h : Wds w g n W) (hb : Below B w w') (hg : g < B) : Wds w' g n W := by obtain ⟨c, h, h1⟩ := h; exact ⟨c, h.below hb hg, h1⟩
theorem Wds.grown {row : Option Nat} (h : Wds w g n W) (hb : w.grownBy w' row) (hg : some g ≠ row) : Wds w' g n W := by obtain ⟨c, h, h1⟩ := h; exact ⟨c, h.grown hb hg, h1⟩
theorem Wds.cell (h : Wds w g n W) {i j : Nat} (hi : i < n) (hj : j < 5) : w.cell? ⟨g, i * 5 + j, none⟩ = some (U (W i j)) := by obtain ⟨c, h, _, h1⟩ := h; rw [h.cell]; exact h1 i hi j hj
theorem Wds.frozen (h : Wds w g n W) (i : Nat) : w.frozen? ⟨g, i, none⟩ = false := by obtain ⟨c, h, _⟩ := h; exact h.frozen i
theorem Wds.congr (h : Wds w g n W) (e : ∀ i, i < n → ∀ j, j < 5 → W i j = W' i j) : Wds w g n W' := by
  obtain ⟨c, h, h1, h2⟩ := h
  exact ⟨c, h, h1, fun i hi j hj => by rw [← e i hi j hj]; exact h2 i hi j hj⟩
theorem Wds.set (h : Wds w g n W) {i j : Nat} (hi : i < n) (hj : j < 5) (x : Nat) : Wds (w.setCell ⟨g, i * 5 + j, none⟩ (U x)) g n fun a b => if a = i ∧ b = j then x else W a b := by
  obtain ⟨c, h, h1, h2⟩ := h
  refine ⟨_, h.set_ _ _, by simpa using h1, fun a ha b hb => ?_⟩
  rw [Array.getElem?_setIfInBounds]
  by_cases e : a = i ∧ b = j
  · obtain ⟨rfl, rfl⟩ := e
    rw [if_pos rfl, if_pos (by omega)]
    show _ = some (U (if a = a ∧ b = b then x else _))
    rw [if_pos ⟨rfl, rfl⟩]
  · rw [if_neg (by omega)]
    show _ = some (U (if a = i ∧ b = j then x else W a b))
    rw [if_neg e]
    exact h2 a ha b hb
end
theorem grown_set (w : World) (a : Addr) (u : Value) : w.grownBy (w.setCell a u) (some a.block) :=
  ⟨rfl, rfl, rfl, by simp [World.setCell], fun k hk hne => Below.heap_setCell w a u k (fun e => hne (by rw [e]))⟩
theorem grown_trans {a b c : World} {row : Option Nat} (h : a.grownBy b row) (k : b.grownBy c row) : a.grownBy c row :=
  ⟨k.os.trans h.os, k.tape.trans h.tape, k.output.trans h.output, Nat.le_trans h.size k.size, fun i hi hne => (k.block i (Nat.lt_of_lt_of_le hi h.size) hne).trans (h.block i hi hne)⟩
theorem grown_below {a b : World} (h : Below a.heap.size a b) (row : Option Nat) : a.grownBy b row :=
  ⟨h.os, h.tape, h.output, h.size, fun i hi _ => h.block i hi⟩
theorem or_u64 {a b : Nat} (ha : a < 18446744073709551616) (hb : b < 18446744073709551616) : bits .or .u64 (a : Int) (b : Int) = ((a ||| b : Nat) : Int) :=
  (bits_nat .u64 64 (by decide) (fun n h0 h1 => by simp [IntKind.wrap, IntKind.signed, IntKind.bits]; omega) a b ha hb).2

theorem endUnit {P : Program} {fn : Func} {R : Ending → World → Prop} {a : Act} {w : World} (hr : fn.results = #[]) (hd : a.defers = []) (hR : R (.returned (.tuple #[])) w) : bodyPost P fn R .normal a w :=
  bodyPost_end (results_none hr _ _ _) hd hR

theorem put_any {n g i p : Nat} {P : Nat → Nat → Bool} (w : World) (h : Sts w g n P) (hi : i < n) (hp : p < 320) :
    Calls Try.prog 91 #[.pointer (some ⟨g, i * 5, none⟩), I p] w fun e w' => e = .returned (.tuple #[]) ∧ w.grownBy w' (some g) ∧ Sts w' g n fun a k => P a k || decide (a = i ∧ k = p) := by
  obtain ⟨q, hq⟩ : ∃ q, p / 64 = q := ⟨_, rfl⟩
  obtain ⟨r, hr⟩ : ∃ r, p % 64 = r := ⟨_, rfl⟩
  have hq5 : q < 5 := by omega
  have hr6 : r < 64 := by omega
  have e1 : (p : Int).tdiv 64 = q := by rw [Int.tdiv_eq_ediv_of_nonneg (by omega)]; omega
  have e2 : (p : Int).tmod 64 = r := by rw [Int.tmod_eq_emod_of_nonneg (by omega)]; omega
  have hlt := h.lt
  obtain ⟨x, hx⟩ : ∃ x, x = wd (P i) q := ⟨_, rfl⟩
  obtain ⟨y, hy⟩ : ∃ y, y = x ||| 2 ^ r := ⟨_, rfl⟩
  have hxl : x < 18446744073709551616 := by rw [hx]; exact wd_lt _ _
  have hrl : 2 ^ r < 18446744073709551616 := Nat.pow_lt_pow_right (by decide) hr6
  have hor := or_u64 hxl hrl
  rw [← hy] at hor
  obtain ⟨m, hm⟩ : ∃ m, m = 2 ^ r := ⟨_, rfl⟩
  rw [← hm] at hor hrl
  have e3 : IntKind.u64.wrap ((2 : Int) ^ r) = (m : Int) := by
    have : ((2 : Int) ^ r) = (m : Int) := by rw [hm]; push_cast; rfl
    rw [this]; exact IntWalk.u64_in _ ⟨by omega, by omega⟩
  have e4 : IntKind.i64.wrap (q : Int) = (q : Int) := IntWalk.i64_in _ ⟨by omega, by omega⟩
  have e5 : (q : Int) < 5 := by omega
  have HS : Hid (Sts w g n P) := h
  have Hy : Hid (y = wd (fun k => P i k || decide (k = p)) q) := by show _ = _; rw [hy, hx, ← hq, ← hr, wd_put]
  have Hx : Hid (x = wd (P i) q) := hx
  clear h hx hy hm
  go_enter Try.func91, Try.ntmps91
  go_wp2_with fail
  refine wp_region_last [] rfl (by kernel_rfl) (by kernel_rfl) (by kernel_rfl) (by kernel_rfl) (fun w' => Below w.heap.size w w')
    (fun w' => ∃ w3, Below w.heap.size w w3 ∧ w' = w3.setCell ⟨g, i * 5 + q, none⟩ (U y)) _
    [.pointer (some ⟨g, i * 5, none⟩), I p, I q, .pointer (some ⟨g, i * 5, none⟩), .pointer (some ⟨g, i * 5 + q, none⟩), U x, I p, I r, U m, U y, .pointer (some ⟨g, i * 5, none⟩), .pointer (some ⟨g, i * 5 + q, none⟩), undef]
    (by simp only [putAll, List.setIfInBounds_toArray, List.set_cons_succ, List.set_cons_zero]; rfl) (Below.refl _ _).drew 12 _ rfl rfl ?hop ?hst ?hQ
  case hop =>
    refine FixBL.toL (fun w' w'' hS hb => hS.trans (hb.mono hS.size)) _ _ ?_
    refine ⟨.inr ?_, .inr ?_, .inr ?_, .inr ?_, .inr ?_, .inr ?_, .inr ?_, .inr ?_, .inr ?_, .inr ?_, .inr ?_, .inr ?_, .inl rfl, trivial⟩
    · (with_reducible refine FixB.of ?_ ?_; rfl; intro w' hS; have s0 := (HS.out.below hS hlt).cell hi hq5; rw [← Hx.out] at s0; clear hS; unfold Oper.wp; go_simp; first | done | exact Below.refl _ _)
    · (with_reducible refine FixB.of ?_ ?_; rfl; intro w' hS; have s0 := (HS.out.below hS hlt).cell hi hq5; rw [← Hx.out] at s0; clear hS; unfold Oper.wp; go_simp; first | done | exact Below.refl _ _)
    · (with_reducible refine FixB.of ?_ ?_; rfl; intro w' hS; have s0 := (HS.out.below hS hlt).cell hi hq5; rw [← Hx.out] at s0; clear hS; unfold Oper.wp; go_simp; first | done | exact Below.refl _ _)
    · (with_reducible refine FixB.of ?_ ?_; rfl; intro w' hS; have s0 := (HS.out.below hS hlt).cell hi hq5; rw [← Hx.out] at s0; clear hS; unfold Oper.wp; go_simp; first | done | exact Below.refl _ _)
    · (with_reducible refine FixB.of ?_ ?_; rfl; intro w' hS; have s0 := (HS.out.below hS hlt).cell hi hq5; rw [← Hx.out] at s0; clear hS; unfold Oper.wp; go_simp; first | done | exact Below.refl _ _)
    · (with_reducible refine FixB.of ?_ ?_; rfl; intro w' hS; have s0 := (HS.out.below hS hlt).cell hi hq5; rw [← Hx.out] at s0; clear hS; unfold Oper.wp; go_simp; first | done | exact Below.refl _ _)
    · (with_reducible refine FixB.of ?_ ?_; rfl; intro w' hS; have s0 := (HS.out.below hS hlt).cell hi hq5; rw [← Hx.out] at s0; clear hS; unfold Oper.wp; go_simp; first | done | exact Below.refl _ _)
    · (with_reducible refine FixB.of ?_ ?_; rfl; intro w' hS; have s0 := (HS.out.below hS hlt).cell hi hq5; rw [← Hx.out] at s0; clear hS; unfold Oper.wp; go_simp; first | done | exact Below.refl _ _)
    · (with_reducible refine FixB.of ?_ ?_; rfl; intro w' hS; have s0 := (HS.out.below hS hlt).cell hi hq5; rw [← Hx.out] at s0; clear hS; unfold Oper.wp; go_simp; first | done | exact Below.refl _ _)
    · (with_reducible refine FixB.of ?_ ?_; rfl; intro w' hS; have s0 := (HS.out.below hS hlt).cell hi hq5; rw [← Hx.out] at s0; clear hS; unfold Oper.wp; go_simp; first | done | exact Below.refl _ _)
    · (with_reducible refine FixB.of ?_ ?_; rfl; intro w' hS; have s0 := (HS.out.below hS hlt).cell hi hq5; rw [← Hx.out] at s0; clear hS; unfold Oper.wp; go_simp; first | done | exact Below.refl _ _)
    · (with_reducible refine FixB.of ?_ ?_; rfl; intro w' hS; have s0 := (HS.out.below hS hlt).cell hi hq5; rw [← Hx.out] at s0; clear hS; unfold Oper.wp; go_simp; first | done | exact Below.refl _ _)
  case hst =>
    refine ⟨rfl, fun w' hS => ?_⟩
    have hMM := HS.out.below hS hlt
    have c0 := hMM.cell hi hq5
    have z0 := hMM.frozen (i * 5 + q)
    have Hs := Lib.hid hS
    clear hS hMM
    unfold Oper.wp
    go_simp
    exact ⟨w', Hs.out, rfl⟩
  case hQ =>
    rintro w' ⟨w3, hb3, rfl⟩
    have hg : Hid (w.grownBy (w3.setCell ⟨g, i * 5 + q, none⟩ (U y)) (some g)) := grown_trans (grown_below hb3 _) (grown_set w3 _ _)
    have hS : Hid (Sts (w3.setCell ⟨g, i * 5 + q, none⟩ (U y)) g n fun a k => P a k || decide (a = i ∧ k = p)) := by
      refine ((HS.out.below hb3 hlt).set hi hq5 y).congr fun a ha b hb => ?_
      by_cases e : a = i
      · by_cases e2 : b = q
        · show (if a = i ∧ b = q then y else _) = _
          rw [if_pos ⟨e, e2⟩, Hy.out, e, e2]
          simp
        · show (if a = i ∧ b = q then y else _) = _
          rw [if_neg (fun h => e2 h.2), e]
          have := wd_else (P i) p (q := b) (by omega)
          simpa using this.symm
      · show (if a = i ∧ b = q then y else _) = _
        rw [if_neg (fun h => e h.1)]
        simp [e]
    clear hb3
    go_wp2
    exact endUnit (by kernel_rfl) rfl ⟨rfl, hg.out, hS.out⟩

theorem and_bit {x r : Nat} (hx : x < 18446744073709551616) : (bits .and .u64 ((x : Int) / 2 ^ r) 1 == 1) = x.testBit r := by
  have h1 : ((x : Int) / 2 ^ r) = ((x / 2 ^ r : Nat) : Int) := by push_cast; rfl
  have h2 := (bits_nat .u64 64 (by decide) (fun n h0 h1 => IntWalk.u64_in n ⟨h0, by omega⟩) (x / 2 ^ r) 1 (Nat.lt_of_le_of_lt (Nat.div_le_self _ _) hx) (by decide)).1
  rw [h1, show ((1 : Int)) = ((1 : Nat) : Int) from rfl, h2, Nat.and_one_is_mod, Nat.testBit_eq_decide_div_mod_eq, Bool.eq_iff_iff]
  simp only [beq_iff_eq, decide_eq_true_eq]
  omega

theorem has_any {n g i p : Nat} {P : Nat → Nat → Bool} (w : World) (h : Sts w g n P) (hi : i < n) (hp : p < 320) :
    Calls Try.prog 92 #[.pointer (some ⟨g, i * 5, none⟩), I p] w fun e w' => e = .returned (.bool (P i p)) ∧ w = w' := by
  obtain ⟨q, hq⟩ : ∃ q, p / 64 = q := ⟨_, rfl⟩
  obtain ⟨r, hr⟩ : ∃ r, p % 64 = r := ⟨_, rfl⟩
  have hq5 : q < 5 := by omega
  have hr6 : r < 64 := by omega
  have e1 : (p : Int).tdiv 64 = q := by rw [Int.tdiv_eq_ediv_of_nonneg (by omega)]; omega
  have e2 : (p : Int).tmod 64 = r := by rw [Int.tmod_eq_emod_of_nonneg (by omega)]; omega
  have c0 := h.cell hi hq5
  obtain ⟨x, hx⟩ : ∃ x, x = wd (P i) q := ⟨_, rfl⟩
  have hb := wd_bit (P i) q hr6
  rw [show 64 * q + r = p by omega, ← hx] at hb
  rw [← hx] at c0
  have hxl : x < 18446744073709551616 := by rw [hx]; exact wd_lt _ _
  rw [← hb]
  have Hb := Lib.hid (and_bit (r := r) hxl)
  clear hb hx h
  go_enter Try.func92, Try.ntmps92
  go_wp2
  go_ret
  exact ⟨by rw [← Hb.out] <;> rfl, rfl⟩

theorem add_any {n g i : Nat} {P : Nat → Nat → Bool} {p' : Nat → Bool} (w : World) (h : Sts w g n P) (hi : i < n) :
    Calls Try.prog 93 #[.pointer (some ⟨g, i * 5, none⟩), .agg (sc p')] w fun e w' => e = .returned (.tuple #[]) ∧ w.grownBy w' (some g) ∧ Sts w' g n fun a k => P a k || (decide (a = i) && p' k) := by
  have hlt := h.lt
  obtain ⟨wb, hwb⟩ : ∃ wb, wb = w.alloc (.cells (sc p') TS) := ⟨_, rfl⟩
  have HB : Hid (Blk wb w.heap.size TS (sc p')) := by show Blk _ _ _ _; rw [hwb]; exact Blk.new w _ _
  have Hgw : Hid (w.grownBy wb (some g)) := by show w.grownBy _ _; rw [hwb]; exact World.grownBy_alloc w _ _
  have HW : Hid (Wds wb g n fun a b => if a = i ∧ b < 0 then wd (fun k => P a k || p' k) b else wd (P a) b) :=
    (h.grown (w' := wb) (row := none) (by rw [hwb]; exact World.grownBy_alloc w _ _) (by simp)).congr fun a ha b hb => by simp
  have Hwb := Lib.hid hwb
  clear h hwb
  go_enter Try.func93, Try.ntmps93
  go_wp2_with fail
  rw [← Hwb.out]
  go_loopw [5] (fun t wr => ∃ j : Nat, t = .int .i64 j ∧ j ≤ 5 ∧ w.grownBy wr (some g) ∧ Wds wr g n (fun a b => if a = i ∧ b < j then wd (fun k => P a k || p' k) b else wd (P a) b) ∧ Blk wr w.heap.size TS (sc p')) (fun t _ => 5 - (intOf t).toNat)
  case atStart => exact ⟨0, rfl, by omega, Hgw.out, HW.out, HB.out⟩
  case round =>
    clear HB Hgw HW Hwb
    obtain ⟨j, rfl, hj, hg, hW, hB⟩ := hrel
    by_cases hj5 : j < 5
    · have hji : (j : Int) < 5 := by omega
      obtain ⟨x, hx⟩ : ∃ x, x = wd (P i) j := ⟨_, rfl⟩
      obtain ⟨y, hy⟩ : ∃ y, y = wd p' j := ⟨_, rfl⟩
      obtain ⟨z, hz⟩ : ∃ z, z = x ||| y := ⟨_, rfl⟩
      have hxl : x < 18446744073709551616 := by rw [hx]; exact wd_lt _ _
      have hyl : y < 18446744073709551616 := by rw [hy]; exact wd_lt _ _
      have hor := or_u64 hxl hyl
      rw [← hz] at hor
      have Hz : Hid (z = wd (fun k => P i k || p' k) j) := by show _ = _; rw [hz, hx, hy, wd_or]
      have HcB : Hid (∀ w', Below wr.heap.size wr w' → w'.cell? ⟨w.heap.size, j, none⟩ = some (U y)) := fun w' hb => by
        rw [(hB.below hb hB.lt).cell, hy]; exact sc_get p' hj5
      have HcW : Hid (∀ w', Below wr.heap.size wr w' → w'.cell? ⟨g, i * 5 + j, none⟩ = some (U x)) := fun w' hb => by
        rw [(hW.below hb hW.lt).cell hi hj5, if_neg (by omega), hx]
      have HW := Lib.hid hW
      have HB := Lib.hid hB
      have Hg := Lib.hid hg
      have hgl := hW.lt
      clear hx hy hz hW hB hg
      go_wp2_with fail
      refine wp_region_last [] rfl (by kernel_rfl) (by kernel_rfl) (by kernel_rfl) (by kernel_rfl) (fun w' => Below wr.heap.size wr w')
        (fun w' => ∃ w3, Below wr.heap.size wr w3 ∧ w' = w3.setCell ⟨g, i * 5 + j, none⟩ (U z)) _
        [.pointer (some ⟨g, i * 5, none⟩), I j, .pointer (some ⟨g, i * 5, none⟩), .pointer (some ⟨g, i * 5 + j, none⟩), U x, I j, .pointer (some ⟨w.heap.size, j, none⟩), U y, U z, .pointer (some ⟨g, i * 5, none⟩), .pointer (some ⟨g, i * 5 + j, none⟩), undef]
        (by simp only [putAll, List.setIfInBounds_toArray, List.set_cons_succ, List.set_cons_zero]; rfl) (Below.refl _ _).drew 11 _ rfl rfl ?hop ?hst ?hQ
      case hop =>
        refine FixBL.toL (fun w' w'' hS hb => hS.trans (hb.mono hS.size)) _ _ ?_
        refine ⟨.inr ?_, .inr ?_, .inr ?_, .inr ?_, .inr ?_, .inr ?_, .inr ?_, .inr ?_, .inr ?_, .inr ?_, .inr ?_, .inl rfl, trivial⟩
        · (with_reducible refine FixB.of ?_ ?_; rfl; intro w' hS; have s0 := HcW.out _ hS; have s1 := HcB.out _ hS; clear hS; unfold Oper.wp; go_simp; first | done | exact Below.refl _ _)
        · (with_reducible refine FixB.of ?_ ?_; rfl; intro w' hS; have s0 := HcW.out _ hS; have s1 := HcB.out _ hS; clear hS; unfold Oper.wp; go_simp; first | done | exact Below.refl _ _)
        · (with_reducible refine FixB.of ?_ ?_; rfl; intro w' hS; have s0 := HcW.out _ hS; have s1 := HcB.out _ hS; clear hS; unfold Oper.wp; go_simp; first | done | exact Below.refl _ _)
        · (with_reducible refine FixB.of ?_ ?_; rfl; intro w' hS; have s0 := HcW.out _ hS; have s1 := HcB.out _ hS; clear hS; unfold Oper.wp; go_simp; first | done | exact Below.refl _ _)
        · (with_reducible refine FixB.of ?_ ?_; rfl; intro w' hS; have s0 := HcW.out _ hS; have s1 := HcB.out _ hS; clear hS; unfold Oper.wp; go_simp; first | done | exact Below.refl _ _)
        · (with_reducible refine FixB.of ?_ ?_; rfl; intro w' hS; have s0 := HcW.out _ hS; have s1 := HcB.out _ hS; clear hS; unfold Oper.wp; go_simp; first | done | exact Below.refl _ _)
        · (with_reducible refine FixB.of ?_ ?_; rfl; intro w' hS; have s0 := HcW.out _ hS; have s1 := HcB.out _ hS; clear hS; unfold Oper.wp; go_simp; first | done | exact Below.refl _ _)
        · (with_reducible refine FixB.of ?_ ?_; rfl; intro w' hS; have s0 := HcW.out _ hS; have s1 := HcB.out _ hS; clear hS; unfold Oper.wp; go_simp; first | done | exact Below.refl _ _)
        · (with_reducible refine FixB.of ?_ ?_; rfl; intro w' hS; have s0 := HcW.out _ hS; have s1 := HcB.out _ hS; clear hS; unfold Oper.wp; go_simp; first | done | exact Below.refl _ _)
        · (with_reducible refine FixB.of ?_ ?_; rfl; intro w' hS; have s0 := HcW.out _ hS; have s1 := HcB.out _ hS; clear hS; unfold Oper.wp; go_simp; first | done | exact Below.refl _ _)
        · (with_reducible refine FixB.of ?_ ?_; rfl; intro w' hS; have s0 := HcW.out _ hS; have s1 := HcB.out _ hS; clear hS; unfold Oper.wp; go_simp; first | done | exact Below.refl _ _)
      case hst =>
        refine ⟨rfl, fun w' hS => ?_⟩
        have c0 := HcW.out _ hS
        have z0 := (HW.out.below hS hgl).frozen (i * 5 + j)
        have Hs := Lib.hid hS
        clear hS
        unfold Oper.wp
        go_simp
        exact ⟨w', Hs.out, rfl⟩
      case hQ =>
        rintro w' ⟨w3, hb3, rfl⟩
        have Hg2 : Hid (w.grownBy (w3.setCell ⟨g, i * 5 + j, none⟩ (U z)) (some g)) := grown_trans Hg.out (grown_trans (grown_below hb3 _) (grown_set w3 _ _))
        have hBl := HB.out.below hb3 HB.out.lt
        have HB2 : Hid (Blk (w3.setCell ⟨g, i * 5 + j, none⟩ (U z)) w.heap.size TS (sc p')) := hBl.far (by show w.heap.size ≠ g; omega) _
        have HW2 : Hid (Wds (w3.setCell ⟨g, i * 5 + j, none⟩ (U z)) g n fun a b => if a = i ∧ b < j + 1 then wd (fun k => P a k || p' k) b else wd (P a) b) := by
          refine ((HW.out.below hb3 hgl).set hi hj5 z).congr fun a ha b hb => ?_
          show (if a = i ∧ b = j then z else if a = i ∧ b < j then _ else _) = _
          by_cases e : a = i ∧ b = j
          · rw [if_pos e, if_pos ⟨e.1, by omega⟩, Hz.out, e.1, e.2]
          · rw [if_neg e]
            by_cases e2 : a = i ∧ b < j
            · rw [if_pos e2, if_pos ⟨e2.1, by omega⟩]
            · rw [if_neg e2, if_neg (by omega)]
        clear hb3 hBl HcB HcW HB HW Hg
        go_wp2_with fail
        go_roundw
        case rel => exact ⟨j + 1, by go_num, by omega, Hg2.out, HW2.out, HB2.out⟩
        case measure => simp [intOf]; omega
    · obtain rfl : j = 5 := by omega
      have hji : ¬ ((5 : Nat) : Int) < 5 := by omega
      have HW2 : Hid (Sts wr g n fun a k => P a k || (decide (a = i) && p' k)) := hW.congr fun a ha b hb => by
        by_cases e : a = i
        · rw [if_pos ⟨e, hb⟩]; simp [e]
        · rw [if_neg (fun h => e h.1)]; simp [e]
      have Hg := Lib.hid hg
      clear hW hB hg
      go_wp2_with fail
      exact endUnit (by kernel_rfl) rfl ⟨rfl, Hg.out, HW2.out⟩
end Go.Proofs.Ytneonacdjmfaoaa
