/- Contracts of the reference's search for a map's number and of its search for what an element reaches; conditions as each theorem states. -/
import Derived.Test.YtneonacdjmfaoaaNQ
import Derived.Test.YtneonacdjmfaoaaRX
namespace Go.Proofs.Ytneonacdjmfaoaa
open Go.RowKit
set_option maxRecDepth 100000
set_option linter.unusedSimpArgs false
set_option linter.unusedVariables false

theorem l03Index_any (A : Option Addr) (N c : Nat) (E : List M) (f : M) (w : World) (hx : RdM w w.heap.size A E) (hn : E.length = N) (hN : N < 1073741824) (hA : Asc E) (hE : ∀ g ∈ E, Valid g) (hf : Valid f) :
    Calls Try.prog 86 #[.slice A N c, .agg (mc f)] w fun e w' => e = .returned (I (plOf E f - 1)) ∧ Below w.heap.size w w' := by
  have Hx := Lib.hid hx
  have Hn := Lib.hid hn
  have HE := Lib.hid hE
  have HA := Lib.hid hA
  clear hx hn hE hA
  go_enter Try.func86, Try.ntmps86
  go_wp2_with fail
  obtain ⟨wb, hwb⟩ : ∃ wb, wb = w.alloc (.cells (mc f) 39) := ⟨_, rfl⟩
  have H6 : Hid (Six wb w.heap.size f) := by show Six _ _ _; rw [hwb]; exact Blk.six (Blk.new w _ _)
  have Hbb : Hid (Below w.heap.size w wb) := by show Below _ _ _; rw [hwb]; exact (Below.refl _ _).alloc (Nat.le_refl _) _
  have hsb : wb.heap.size = w.heap.size + 1 := by rw [hwb]; simp
  try rw [← hwb]
  clear hwb
  go_loopw [5, 6] (fun lo hi wr => ∃ a b : Nat, lo = .int .i64 a ∧ hi = .int .i64 b ∧ a ≤ b ∧ b ≤ N ∧ Below wb.heap.size wb wr ∧ Cut E f a b) (fun lo hi _ => (intOf hi).toNat - (intOf lo).toNat)
  case atStart => exact ⟨0, N, rfl, rfl, by omega, Nat.le_refl _, Below.refl _ _, fun j hj => by omega, fun j hj hl => by rw [Hn.out] at hl; omega⟩
  case round =>
    obtain ⟨a, b, rfl, rfl, hab, hbN, hb, hC⟩ := hrel
    have Hb := Lib.hid hb
    have HC := Lib.hid hC
    have hsz := hb.size
    clear hb hC
    by_cases hlt : a < b
    · have hi : (a : Int) < (b : Int) := by omega
      obtain ⟨k, hk⟩ : ∃ k : Nat, ((a : Int) + (b : Int)) / 2 = k := ⟨(a + b) / 2, by omega⟩
      have hak : a ≤ k := by omega
      have hkb : k < b := by omega
      go_wp2_with fail
      rw [hk]
      clear hk
      obtain ⟨b2, off2, rfl, hbb2, h6⟩ := RdM.at_ (Rd.below (Rd.below Hx.out Hbb.out) (Hb.out.mono Hbb.out.size)) (k := k) (by rw [Hn.out]; omega)
      obtain ⟨g, hg⟩ : ∃ g, g = gm E k := ⟨_, rfl⟩
      rw [← hg] at h6
      have hvg : Valid g := HE.out g (by rw [hg]; exact gm_mem (by rw [Hn.out]; omega))
      have H6k := Lib.hid h6
      have hkN : (k : Int) < (N : Int) := by omega
      have h6l : b2 < wr.heap.size := by omega
      have H6w := Lib.hid (H6.out.below Hb.out (by omega))
      have h6wl : w.heap.size < wr.heap.size := by omega
      have Hg := Lib.hid hg
      clear h6 hg
      refine wp_region_same [] rfl (by kernel_rfl) (by kernel_rfl) (by kernel_rfl) (fun w' => Below wr.heap.size wr w') _
        [.slice (some ⟨b2, off2, none⟩) N c, I k, .pointer (some ⟨b2, off2 + k * 6, none⟩), .agg (mc g), .agg (mc f), .bool (lessM g f)]
        (by simp only [putAll, List.setIfInBounds_toArray, List.set_cons_succ, List.set_cons_zero]; rfl) (Below.refl _ _).drew ?hop ?hQ
      case hop =>
        refine FixBL.toL (fun w' w'' hS hb => hS.trans (hb.mono hS.size)) _ _ ?_
        refine ⟨.inr ?_, .inr ?_, .inr ?_, .inr ?_, .inr ?_, .inr ?_, trivial⟩
        · (with_reducible refine FixB.of ?_ ?_; rfl; intro w' hS; have s0 := H6k.out.below hS h6l; have s1 := H6w.out.below hS h6wl; clear hS; unfold Oper.wp; go_simp; first | done | exact Below.refl _ _)
        · (with_reducible refine FixB.of ?_ ?_; rfl; intro w' hS; have s0 := H6k.out.below hS h6l; have s1 := H6w.out.below hS h6wl; clear hS; unfold Oper.wp; go_simp; first | done | exact Below.refl _ _)
        · (with_reducible refine FixB.of ?_ ?_; rfl; intro w' hS; have s0 := H6k.out.below hS h6l; have s1 := H6w.out.below hS h6wl; clear hS; unfold Oper.wp; go_simp; first | done | exact Below.refl _ _)
        · (with_reducible refine FixB.of ?_ ?_; rfl; intro w' hS; have s0 := H6k.out.below hS h6l; have s1 := H6w.out.below hS h6wl; clear hS; unfold Oper.wp; go_simp; first | done | exact Below.refl _ _)
        · (with_reducible refine FixB.of ?_ ?_; rfl; intro w' hS; have s0 := H6k.out.below hS h6l; have s1 := H6w.out.below hS h6wl; clear hS; unfold Oper.wp; go_simp; first | done | exact Below.refl _ _)
        · (with_reducible refine FixB.of ?_ ?_; rfl; intro w' hS; have s3 := Lib.hid hS; unfold Oper.wp; clear hS; go_simp; refine (l01Less_any g f _ hvg hf).mono ?_; rintro e w1 ⟨rfl, hb⟩; exact ⟨rfl, hb⟩)
      case hQ =>
        intro wc hS _
        have Hb3 := Lib.hid (Hb.out.trans (hS.mono hsz))
        clear hS H6k H6w
        cases hl : lessM g f
        · have HC2 := Lib.hid (HC.out.down HA.out (k := k) (by rw [← Hg.out]; exact hl))
          go_wp2
          go_roundw
          case rel => exact ⟨a, k, by go_num, by go_num, by omega, by omega, Hb3.out, HC2.out⟩
          case measure => simp [intOf]; omega
        · have HC2 := Lib.hid (HC.out.up HA.out (k := k) (by rw [Hn.out]; omega) (by rw [← Hg.out]; exact hl))
          go_wp2
          go_roundw
          case rel => exact ⟨k + 1, b, by go_num, by go_num, by omega, by omega, Hb3.out, HC2.out⟩
          case measure => simp [intOf]; omega
    · obtain rfl : a = b := by omega
      have hi : ¬ ((a : Int) < (a : Int)) := by omega
      have H6w := Lib.hid (H6.out.below Hb.out (by omega))
      have h6wl : w.heap.size < wr.heap.size := by omega
      have Hbw := Lib.hid (Hbb.out.trans (Hb.out.mono Hbb.out.size))
      have b0 := plOf_bd E f
      by_cases haN : a < N
      · obtain ⟨b2, off2, rfl, hbb2, h6⟩ := RdM.at_ (Rd.below Hx.out Hbw.out) (k := a) (by rw [Hn.out]; omega)
        obtain ⟨g, hg⟩ : ∃ g, g = gm E a := ⟨_, rfl⟩
        rw [← hg] at h6
        have H6k := Lib.hid h6
        have hkN : (a : Int) < (N : Int) := by omega
        have h6l : b2 < wr.heap.size := by omega
        have heq := eqMap_run g f
        obtain ⟨d, hd⟩ : ∃ d, d = decide (g = f) := ⟨_, rfl⟩
        rw [← hd] at heq
        have Hd := Lib.hid hd
        have Hg := Lib.hid hg
        clear h6 hg hd b0
        go_wp2_with fail
        refine wp_region_same [] rfl (by kernel_rfl) (by kernel_rfl) (by kernel_rfl) (fun w' => Below wr.heap.size wr w') _
          [I a, .slice (some ⟨b2, off2, none⟩) N c, I N, .bool true, .bool true, .slice (some ⟨b2, off2, none⟩) N c, I a, .pointer (some ⟨b2, off2 + a * 6, none⟩), .agg (mc g), .agg (mc f), .bool d, .bool d]
          (by simp only [putAll, List.setIfInBounds_toArray, List.set_cons_succ, List.set_cons_zero]; rfl) (Below.refl _ _).drew ?hop ?hQ
        case hop =>
          refine FixBL.toL (fun w' w'' hS hb => hS.trans (hb.mono hS.size)) _ _ ?_
          refine ⟨.inr ?_, .inr ?_, .inr ?_, .inr ?_, .inr ?_, .inr ?_, .inr ?_, .inr ?_, .inr ?_, .inr ?_, .inr ?_, .inr ?_, trivial⟩
          · (with_reducible refine FixB.of ?_ ?_; rfl; intro w' hS; have s0 := H6k.out.below hS h6l; have s1 := H6w.out.below hS h6wl; clear hS; unfold Oper.wp; go_simp; first | done | exact Below.refl _ _)
          · (with_reducible refine FixB.of ?_ ?_; rfl; intro w' hS; have s0 := H6k.out.below hS h6l; have s1 := H6w.out.below hS h6wl; clear hS; unfold Oper.wp; go_simp; first | done | exact Below.refl _ _)
          · (with_reducible refine FixB.of ?_ ?_; rfl; intro w' hS; have s0 := H6k.out.below hS h6l; have s1 := H6w.out.below hS h6wl; clear hS; unfold Oper.wp; go_simp; first | done | exact Below.refl _ _)
          · (with_reducible refine FixB.of ?_ ?_; rfl; intro w' hS; have s0 := H6k.out.below hS h6l; have s1 := H6w.out.below hS h6wl; clear hS; unfold Oper.wp; go_simp; first | done | exact Below.refl _ _)
          · (with_reducible refine FixB.of ?_ ?_; rfl; intro w' hS; have s0 := H6k.out.below hS h6l; have s1 := H6w.out.below hS h6wl; clear hS; unfold Oper.wp; go_simp; first | done | exact Below.refl _ _)
          · (refine FixB.on (by first | rfl | kernel_rfl | (simp [Region.wanted, yielded]; done)) ?_; intro w' hS; have s0 := H6k.out.below hS h6l; have s1 := H6w.out.below hS h6wl; clear hS; unfold Oper.wp; go_simp; first | done | exact Below.refl _ _)
          · (refine FixB.on (by first | rfl | kernel_rfl | (simp [Region.wanted, yielded]; done)) ?_; intro w' hS; have s0 := H6k.out.below hS h6l; have s1 := H6w.out.below hS h6wl; clear hS; unfold Oper.wp; go_simp; first | done | exact Below.refl _ _)
          · (refine FixB.on (by first | rfl | kernel_rfl | (simp [Region.wanted, yielded]; done)) ?_; intro w' hS; have s0 := H6k.out.below hS h6l; have s1 := H6w.out.below hS h6wl; clear hS; unfold Oper.wp; go_simp; first | done | exact Below.refl _ _)
          · (refine FixB.on (by first | rfl | kernel_rfl | (simp [Region.wanted, yielded]; done)) ?_; intro w' hS; have s0 := H6k.out.below hS h6l; have s1 := H6w.out.below hS h6wl; clear hS; unfold Oper.wp; go_simp; first | done | exact Below.refl _ _)
          · (refine FixB.on (by first | rfl | kernel_rfl | (simp [Region.wanted, yielded]; done)) ?_; intro w' hS; have s0 := H6k.out.below hS h6l; have s1 := H6w.out.below hS h6wl; clear hS; unfold Oper.wp; go_simp; first | done | exact Below.refl _ _)
          · (refine FixB.on (by first | rfl | kernel_rfl | (simp [Region.wanted, yielded]; done)) ?_; intro w' hS; have s0 := H6k.out.below hS h6l; have s1 := H6w.out.below hS h6wl; clear hS; unfold Oper.wp; go_simp; first | done | exact Below.refl _ _)
          · (with_reducible refine FixB.of ?_ ?_; rfl; intro w' hS; have s0 := H6k.out.below hS h6l; have s1 := H6w.out.below hS h6wl; clear hS; unfold Oper.wp; go_simp; first | done | exact Below.refl _ _)
        case hQ =>
          intro wc hS _
          have Hb3 := Lib.hid (Hbw.out.trans (hS.mono Hbw.out.size))
          clear hS H6k H6w heq
          have he := HC.out.eq HA.out (by rw [Hn.out]; exact haN)
          rw [← Hg.out] at he
          cases hdd : d
          · have hnf : f ∉ E := fun h => by have := Hd.out; rw [hdd, he.2 h] at this; simp at this
            have Hp : Hid (plOf E f - 1 = -1) := by show _ = _; rw [plOf_out hnf]; rfl
            clear he
            go_wp2
            go_ret
            exact ⟨by rw [Hp.out] <;> rfl, Hb3.out⟩
          · have hgf : g = f := by have := Hd.out; rw [hdd] at this; exact of_decide_eq_true this.symm
            have hin := he.1 hgf
            have Hp : Hid (plOf E f - 1 = (a : Int)) := by show _ = _; rw [plOf_in hin, (HC.out.in_ HA.out hin).2.2]; omega
            have hw1 : IntKind.i64.wrap (a : Int) = a := IntWalk.i64_in _ ⟨by omega, by omega⟩
            clear he hgf
            go_wp2
            go_ret
            exact ⟨by rw [Hp.out] <;> rfl, Hb3.out⟩
      · have hnf : f ∉ E := fun h => by have := (HC.out.in_ HA.out h).1; rw [Hn.out] at this; omega
        have Hp : Hid (plOf E f - 1 = -1) := by show _ = _; rw [plOf_out hnf]; rfl
        have hkN : ¬ ((a : Int) < (N : Int)) := by omega
        clear b0
        go_wp2_with fail
        refine wp_region_same [] rfl (by kernel_rfl) (by kernel_rfl) (by kernel_rfl) (fun w' => Below wr.heap.size wr w') _
          [I a, .slice A N c, I N, .bool false, .bool false, undef, undef, undef, undef, undef, undef, .bool false]
          (by simp only [putAll, List.setIfInBounds_toArray, List.set_cons_succ, List.set_cons_zero]; rfl) (Below.refl _ _).drew ?hop ?hQ
        case hop =>
          refine FixBL.toL (fun w' w'' hS hb => hS.trans (hb.mono hS.size)) _ _ ?_
          refine ⟨.inr ?_, .inr ?_, .inr ?_, .inr ?_, .inr ?_, .inr ?_, .inr ?_, .inr ?_, .inr ?_, .inr ?_, .inr ?_, .inr ?_, trivial⟩
          · (with_reducible refine FixB.of ?_ ?_; rfl; intro w' hS; clear hS; unfold Oper.wp; go_simp; first | done | exact Below.refl _ _)
          · (with_reducible refine FixB.of ?_ ?_; rfl; intro w' hS; clear hS; unfold Oper.wp; go_simp; first | done | exact Below.refl _ _)
          · (with_reducible refine FixB.of ?_ ?_; rfl; intro w' hS; clear hS; unfold Oper.wp; go_simp; first | done | exact Below.refl _ _)
          · (with_reducible refine FixB.of ?_ ?_; rfl; intro w' hS; clear hS; unfold Oper.wp; go_simp; first | done | exact Below.refl _ _)
          · (with_reducible refine FixB.of ?_ ?_; rfl; intro w' hS; clear hS; unfold Oper.wp; go_simp; first | done | exact Below.refl _ _)
          · exact FixB.off (by first | rfl | kernel_rfl | (simp [Region.wanted, yielded]; done)) rfl
          · exact FixB.off (by first | rfl | kernel_rfl | (simp [Region.wanted, yielded]; done)) rfl
          · exact FixB.off (by first | rfl | kernel_rfl | (simp [Region.wanted, yielded]; done)) rfl
          · exact FixB.off (by first | rfl | kernel_rfl | (simp [Region.wanted, yielded]; done)) rfl
          · exact FixB.off (by first | rfl | kernel_rfl | (simp [Region.wanted, yielded]; done)) rfl
          · exact FixB.off (by first | rfl | kernel_rfl | (simp [Region.wanted, yielded]; done)) rfl
          · (with_reducible refine FixB.of ?_ ?_; rfl; intro w' hS; clear hS; unfold Oper.wp; go_simp; first | done | exact Below.refl _ _)
        case hQ =>
          intro wc hS _
          have Hb3 := Lib.hid (Hbw.out.trans (hS.mono Hbw.out.size))
          clear hS
          go_wp2
          go_ret
          exact ⟨by rw [Hp.out] <;> rfl, Hb3.out⟩


abbrev TB : TypeId := 4
/-- a row of n flags stands in block g -/
def Bls (w : World) (g n : Nat) (Q : Nat → Bool) : Prop := ∃ cur : Array Value, Blk w g TB cur ∧ cur.size = n ∧ ∀ i, i < n → cur[i]? = some (.bool (Q i))
section
variable {w w' : World} {g n : Nat} {Q Q' : Nat → Bool}
theorem Bls.lt (h : Bls w g n Q) : g < w.heap.size := by obtain ⟨_, h, _⟩ := h; exact h.lt
theorem Bls.below {B : Nat} (h : Bls w g n Q) (hb : Below B w w') (hg : g < B) : Bls w' g n Q := by obtain ⟨c, h, h1⟩ := h; exact ⟨c, h.below hb hg, h1⟩
theorem Bls.grown {row : Option Nat} (h : Bls w g n Q) (hb : w.grownBy w' row) (hg : some g ≠ row) : Bls w' g n Q := by obtain ⟨c, h, h1⟩ := h; exact ⟨c, h.grown hb hg, h1⟩
theorem Bls.cell (h : Bls w g n Q) {i : Nat} (hi : i < n) : w.cell? ⟨g, i, none⟩ = some (.bool (Q i)) := by obtain ⟨c, h, _, h1⟩ := h; rw [h.cell]; exact h1 i hi
theorem Bls.frozen (h : Bls w g n Q) (i : Nat) : w.frozen? ⟨g, i, none⟩ = false := by obtain ⟨c, h, _⟩ := h; exact h.frozen i
theorem Bls.congr (h : Bls w g n Q) (e : ∀ i, i < n → Q i = Q' i) : Bls w g n Q' := by
  obtain ⟨c, h, h1, h2⟩ := h
  exact ⟨c, h, h1, fun i hi => by rw [← e i hi]; exact h2 i hi⟩
theorem Bls.set (h : Bls w g n Q) {i : Nat} (hi : i < n) : Bls (w.setCell ⟨g, i, none⟩ (.bool true)) g n fun a => Q a || decide (a = i) := by
  obtain ⟨c, h, h1, h2⟩ := h
  refine ⟨_, h.set_ _ _, by simpa using h1, fun a ha => ?_⟩
  rw [Array.getElem?_setIfInBounds]
  by_cases e : i = a
  · rw [if_pos e, if_pos (by omega)]
    simp [e]
  · rw [if_neg e]
    rw [h2 a ha]
    have : ¬ a = i := fun h => e h.symm
    simp [this]
end
theorem infoB : (Try.prog.info? TB).map (fun i => (i.zero, i.size, i.bytes)) = some (some (.bool false), 1, 1) := by kernel_rfl
theorem made_one (n : Nat) : (madeCells (Value.bool false).cells n).toList = List.replicate n (.bool false) := by
  have hz : ∀ j, j < 1 → ((Value.bool false).cells)[j]! = .bool false := by
    intro j hj
    match j, hj with
    | 0, _ => rfl
  refine List.ext_getElem (by simp [madeCells]) fun j h1 h2 => ?_
  rw [List.getElem_replicate]
  simp only [madeCells, Array.toList_map, List.getElem_map]
  exact hz _ (Nat.mod_lt _ (by decide))
theorem madeB {w : World} {B n h : Nat} (hr : w.ownsRow B TB 1 (.slice (some ⟨h, 0, none⟩) n n) n (madeCells (Value.bool false).cells (n * 1)).toList) : Bls w h n fun _ => false := by
  rw [made_one] at hr
  rcases hr.2 with ⟨he, _⟩ | ⟨g, cap, cur, he, hg, hh, hn, hm, hs, ht⟩
  · cases he
  · injection he with he1 _ he2
    injection he1 with he1
    injection he1 with he1
    subst he1 he2
    refine ⟨cur, hh, by simpa using hs, fun i hi => ?_⟩
    have h2 : (cur.toList.take (n * 1))[i]? = some (.bool false) := by rw [ht, List.getElem?_replicate, if_pos (by omega)]
    rw [List.getElem?_take, if_pos (by omega), Array.getElem?_toList] at h2
    exact h2

/-! ### the search -/
def addQ (L : List Nat) (x : Nat) : List Nat := if x ∈ L then L else L ++ [x]
theorem addQ_mem (L : List Nat) (x : Nat) : x ∈ addQ L x := by unfold addQ; split <;> simp [*]
theorem addQ_of {L : List Nat} {x y : Nat} (h : y ∈ L) : y ∈ addQ L x := by unfold addQ; split <;> simp [*]
theorem addQ_in {L : List Nat} {x y : Nat} (h : y ∈ addQ L x) : y ∈ L ∨ y = x := by unfold addQ at h; split at h <;> simp_all
theorem addQ_get {L : List Nat} {x j : Nat} (h : j < L.length) : (addQ L x)[j]? = L[j]? := by unfold addQ; split <;> simp [List.getElem?_append, h]
theorem addQ_nd {L : List Nat} {x : Nat} (h : L.Nodup) : (addQ L x).Nodup := by
  unfold addQ; split
  · exact h
  · rw [List.nodup_append]; exact ⟨h, by simp, by simp; intro a ha e; subst e; contradiction⟩
theorem addQ_len (L : List Nat) (x : Nat) : L.length ≤ (addQ L x).length := by unfold addQ; split <;> simp
/-- what stands behind: the queue L, its first a entries are done, of the next one the first q generators -/
structure Rch (E ms : List M) (l r : Bool) (i0 : Nat) (L : List Nat) (a q : Nat) : Prop where
  nd : L.Nodup
  ok : ∀ x ∈ L, x < E.length ∧ Rel E l r (gm E i0) (gm E x)
  i0 : i0 ∈ L
  cl : ∀ j x, L[j]? = some x → ∀ i, i < ms.length → (j < a ∨ j = a ∧ i < q) → (l = true → ix E (mul (gm ms i) (gm E x)) ∈ L) ∧ (r = true → ix E (mul (gm E x) (gm ms i)) ∈ L)
theorem Rch.len {E ms : List M} {l r : Bool} {i0 : Nat} {L : List Nat} {a q : Nat} (h : Rch E ms l r i0 L a q) : L.length ≤ E.length := by
  have := nodup_sub_len h.nd (b := List.range E.length) fun x hx => by simpa using (h.ok x hx).1
  simpa using this
def nextQ (E ms : List M) (l r : Bool) (L : List Nat) (x q : Nat) : List Nat :=
  let L1 := if l = true then addQ L (ix E (mul (gm ms q) (gm E x))) else L
  if r = true then addQ L1 (ix E (mul (gm E x) (gm ms q))) else L1
end Go.Proofs.Ytneonacdjmfaoaa
