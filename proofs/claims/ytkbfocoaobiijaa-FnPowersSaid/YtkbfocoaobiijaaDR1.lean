/- Contracts of the source of draws: how it begins, its next number and a pick; no conditions beyond those that each theorem states. -/
import Derived.Test.YtkbfocoaobiijaaC14
import Derived.Test.YtkbfocoaobiijaaC6
import Derived.Test.YtkbfocoaobiijaaGW
import Derived.Test.YtkbfocoaobiijaaRX
import Derived.Laws.BitsLemmas
namespace Go.Proofs.Ytkbfocoaobiijaa
open Go.RowKit
set_option maxRecDepth 100000
set_option linter.unusedSimpArgs false
set_option linter.unusedVariables false

abbrev TSrc : TypeId := 73
abbrev T8 : TypeId := 5
def cU (zs : List Int) : List Value := zs.map fun z => .int .u8 z
theorem cU_len (zs : List Int) : (cU zs).length = zs.length := by simp [cU]
/-- the bytes zs stand to be read, below B -/
def RdU (w : World) (B : Nat) (A : Option Addr) (zs : List Int) : Prop := Rd 1 w B A zs.length (cU zs) ∧ ∀ z ∈ zs, 0 ≤ z ∧ z < 256
theorem RdU.at_ {w : World} {B : Nat} {A : Option Addr} {zs : List Int} (h : RdU w B A zs) {k : Nat} (hk : k < zs.length) :
    ∃ b off, A = some ⟨b, off, none⟩ ∧ b < B ∧ w.cell? ⟨b, off + k, none⟩ = some (.int .u8 (gi zs k)) := by
  obtain ⟨b, off, e, hb, hc⟩ := h.1.2 (by omega)
  exact ⟨b, off, e, hb, hc k _ (by simp [cU, gi, List.getD, hk])⟩
theorem RdU.val {w : World} {B : Nat} {A : Option Addr} {zs : List Int} (h : RdU w B A zs) {k : Nat} (hk : k < zs.length) : 0 ≤ gi zs k ∧ gi zs k < 256 := by
  refine h.2 _ ?_
  unfold gi
  rw [List.getD_eq_getElem?_getD, List.getElem?_eq_getElem hk]
  exact List.getElem_mem hk
theorem RdU.below {w w' : World} {B : Nat} {A : Option Addr} {zs : List Int} (h : RdU w B A zs) (hb : Below B w w') : RdU w' B A zs := ⟨Rd.below h.1 hb, h.2⟩
/-- the world grows beside the block s -/
theorem bel_s {w w' : World} {s : Nat} (hg : w.grownBy w' (some s)) (hs : s ≤ w.heap.size) : Below s w w' :=
  (Below.refl _ _).grown hg hs (fun k hk => by injection hk with hk; omega)
/-- the source's block s: the code, where it is read, and the hash -/
structure Src (w : World) (s : Nat) (A : Option Addr) (n c : Nat) (zs : List Int) : Prop where
  blk : ∃ (a : Nat) (h : Nat), a ≤ n ∧ h < 18446744073709551616 ∧ Blk w s TSrc #[.slice A n c, I a, .int .u64 h]
  code : RdU w s A zs
  len : zs.length = n
  nb : n < 4611686018427387904
section
variable {w w' : World} {s : Nat} {A : Option Addr} {n c : Nat} {zs : List Int}
theorem Src.lt (h : Src w s A n c zs) : s < w.heap.size := by obtain ⟨_, _, _, _, hb⟩ := h.blk; exact hb.lt
theorem Src.alloc (h : Src w s A n c zs) (o : Obj) : Src (w.alloc o) s A n c zs := by
  obtain ⟨a, x, h1, h2, hb⟩ := h.blk
  exact ⟨⟨a, x, h1, h2, hb.alloc o⟩, h.code.below ((Below.refl _ _).alloc (Nat.le_of_lt h.lt) o), h.len, h.nb⟩
theorem Src.below (h : Src w s A n c zs) (hb : Below w.heap.size w w') : Src w' s A n c zs := by
  obtain ⟨a, x, h1, h2, hbl⟩ := h.blk
  exact ⟨⟨a, x, h1, h2, hbl.below hb hbl.lt⟩, h.code.below (hb.mono (Nat.le_of_lt h.lt)), h.len, h.nb⟩
theorem Src.grown {row : Option Nat} (h : Src w s A n c zs) (hg : w.grownBy w' row) (hr : ∀ g, row = some g → s < g) : Src w' s A n c zs := by
  obtain ⟨a, x, h1, h2, hbl⟩ := h.blk
  refine ⟨⟨a, x, h1, h2, hbl.grown hg (fun e => by have := hr s e.symm; omega)⟩, h.code.below ((Below.refl _ _).grown hg (Nat.le_of_lt h.lt) (fun k hk => by have := hr k hk; omega)), h.len, h.nb⟩
theorem Src.cell_far (h : Src w s A n c zs) {p : Addr} (hp : s < p.block) (v : Value) : Src (w.setCell p v) s A n c zs := by
  obtain ⟨a, x, h1, h2, hbl⟩ := h.blk
  exact ⟨⟨a, x, h1, h2, hbl.far (by omega) v⟩, h.code.below ((Below.refl _ _).setCell (by omega) v), h.len, h.nb⟩
end
theorem u64_mod (z : Int) : IntKind.u64.wrap z = z % 18446744073709551616 := rfl
theorem u64_some (z : Int) : ∃ h : Nat, IntKind.u64.wrap z = (h : Int) ∧ h < 18446744073709551616 := by
  obtain ⟨y, hy⟩ : ∃ y, y = z % 18446744073709551616 := ⟨_, rfl⟩
  have h1 : 0 ≤ y := by rw [hy]; exact Int.emod_nonneg z (by decide)
  have h2 : y < 18446744073709551616 := by rw [hy]; exact Int.emod_lt_of_pos z (by decide)
  refine ⟨y.toNat, ?_, by omega⟩
  rw [u64_mod, ← hy]
  omega
theorem and24 {h : Nat} (hh : h < 18446744073709551616) : ∃ x : Nat, bits .and .u64 ((h : Int) / 8589934592) 16777215 = (x : Int) ∧ x < 16777216 := by
  have h1 : ((h : Int) / 8589934592) = ((h / 8589934592 : Nat) : Int) := by rw [Int.natCast_ediv]; rfl
  have h2 := (bits_nat .u64 64 (by decide) (fun n h0 h1 => IntWalk.u64_in n ⟨h0, by omega⟩) (h / 8589934592) 16777215 (by omega) (by decide)).1
  refine ⟨(h / 8589934592) &&& 16777215, by rw [h1]; exact h2, ?_⟩
  have := Nat.and_le_right (n := h / 8589934592) (m := 16777215)
  omega
def RetN (s : Nat) (A : Option Addr) (n c : Nat) (zs : List Int) (k : Int) (w : World) (e : Ending) (w' : World) : Prop := ∃ r : Int, e = .returned (I r) ∧ (1 ≤ k → 0 ≤ r ∧ r < k) ∧ (k < 1 → r = 0) ∧ Src w' s A n c zs ∧ w.grownBy w' (some s)

set_option maxHeartbeats 2000000 in
theorem next_any {s : Nat} {A : Option Addr} {n c : Nat} {zs : List Int} (k : Int) (w : World) (hS : Src w s A n c zs) :
    Calls Try.prog 37 #[.pointer (some ⟨s, 0, none⟩), I k] w (RetN s A n c zs k w) := by
  obtain ⟨a, h, ha, hh, hbl⟩ := hS.blk
  have hc := hS.code
  have hl := hS.len
  have Hnb := Lib.hid hS.nb
  have c0 := hbl.cell 0
  have c1 := hbl.cell 1
  have c2 := hbl.cell 2
  have z2 := hbl.frozen 2
  simp only [List.getElem?_toArray, List.getElem?_cons_zero, List.getElem?_cons_succ] at c0 c1 c2
  have HS := Lib.hid hS
  have Hbl := Lib.hid hbl
  clear hS hbl
  by_cases hk : k < 1
  · go_enter Try.func37, Try.ntmps37
    go_wp2_with fail
    go_ret
    exact ⟨0, rfl, fun h => by omega, fun _ => rfl, HS.out, World.grownBy.refl w _⟩
  · obtain ⟨h2, e1, hh2⟩ : ∃ h2 : Nat, IntKind.u64.wrap (IntKind.u64.wrap ((h : Int) * 6364136223846793005) + 1442695040888963407) = (h2 : Int) ∧ h2 < 18446744073709551616 := u64_some _
    obtain ⟨x, e2, hx⟩ := and24 hh2
    have e3 : wrap64 (x : Int) = (x : Int) := IntWalk.wrap64_in _ ⟨by omega, by omega⟩
    obtain ⟨w1, hw1⟩ : ∃ w1, w1 = w.setCell ⟨s, 2, none⟩ (.int .u64 h2) := ⟨_, rfl⟩
    have b1 : Blk w1 s TSrc #[.slice A n c, I a, .int .u64 h2] := by rw [hw1]; exact Hbl.out.set_ 2 _
    have l1 := b1.lt
    have B1 := Lib.hid b1
    have Hc := Lib.hid hc
    have Hl := Lib.hid hl
    have Hg1 : Hid (w.grownBy w1 (some s)) := by show World.grownBy _ _ _; rw [hw1]; exact grown_set w _ _
    have Hw1 := Lib.hid hw1
    have hs1 : s ≤ w.heap.size := Nat.le_of_lt HS.out.lt
    have hkk : 1 ≤ k := by omega

    clear hw1 b1 hc hl hk
    by_cases han : a < n
    · have hanz : (a : Int) < (n : Int) := by omega
      go_enter Try.func37, Try.ntmps37
      go_wp2_with fail
      rw [← Hw1.out]
      refine wp_region_same [] rfl (by kernel_rfl) (by kernel_rfl) (by kernel_rfl) (fun w' => Below w1.heap.size w1 w') _
        [.pointer (some ⟨s, 0, none⟩), .pointer (some ⟨s, 0, none⟩), .pointer (some ⟨s, 1, none⟩), I a, .pointer (some ⟨s, 0, none⟩), .pointer (some ⟨s, 0, none⟩), .pointer (some ⟨s, 0, none⟩), .slice A n c, I n, .bool true]
        (by simp only [putAll, List.setIfInBounds_toArray, List.set_cons_succ, List.set_cons_zero]; rfl) (Below.refl _ _).drew ?hop ?hQ
      case hop =>
        refine FixBL.toL (fun w' w'' hS hb => hS.trans (hb.mono hS.size)) _ _ ?_
        refine ⟨.inr ?_, .inr ?_, .inr ?_, .inr ?_, .inr ?_, .inr ?_, .inr ?_, .inr ?_, .inr ?_, .inr ?_, trivial⟩
        · (with_reducible refine FixB.of ?_ ?_; rfl; intro w' hS; have s9 := B1.out.below hS l1; have s0 := s9.cell 0; have s1 := s9.cell 1; simp only [List.getElem?_toArray, List.getElem?_cons_zero, List.getElem?_cons_succ] at s0 s1; clear s9 hS; unfold Oper.wp; go_simp; first | done | exact Below.refl _ _)
        · (with_reducible refine FixB.of ?_ ?_; rfl; intro w' hS; have s9 := B1.out.below hS l1; have s0 := s9.cell 0; have s1 := s9.cell 1; simp only [List.getElem?_toArray, List.getElem?_cons_zero, List.getElem?_cons_succ] at s0 s1; clear s9 hS; unfold Oper.wp; go_simp; first | done | exact Below.refl _ _)
        · (with_reducible refine FixB.of ?_ ?_; rfl; intro w' hS; have s9 := B1.out.below hS l1; have s0 := s9.cell 0; have s1 := s9.cell 1; simp only [List.getElem?_toArray, List.getElem?_cons_zero, List.getElem?_cons_succ] at s0 s1; clear s9 hS; unfold Oper.wp; go_simp; first | done | exact Below.refl _ _)
        · (with_reducible refine FixB.of ?_ ?_; rfl; intro w' hS; have s9 := B1.out.below hS l1; have s0 := s9.cell 0; have s1 := s9.cell 1; simp only [List.getElem?_toArray, List.getElem?_cons_zero, List.getElem?_cons_succ] at s0 s1; clear s9 hS; unfold Oper.wp; go_simp; first | done | exact Below.refl _ _)
        · (with_reducible refine FixB.of ?_ ?_; rfl; intro w' hS; have s9 := B1.out.below hS l1; have s0 := s9.cell 0; have s1 := s9.cell 1; simp only [List.getElem?_toArray, List.getElem?_cons_zero, List.getElem?_cons_succ] at s0 s1; clear s9 hS; unfold Oper.wp; go_simp; first | done | exact Below.refl _ _)
        · (with_reducible refine FixB.of ?_ ?_; rfl; intro w' hS; have s9 := B1.out.below hS l1; have s0 := s9.cell 0; have s1 := s9.cell 1; simp only [List.getElem?_toArray, List.getElem?_cons_zero, List.getElem?_cons_succ] at s0 s1; clear s9 hS; unfold Oper.wp; go_simp; first | done | exact Below.refl _ _)
        · (with_reducible refine FixB.of ?_ ?_; rfl; intro w' hS; have s9 := B1.out.below hS l1; have s0 := s9.cell 0; have s1 := s9.cell 1; simp only [List.getElem?_toArray, List.getElem?_cons_zero, List.getElem?_cons_succ] at s0 s1; clear s9 hS; unfold Oper.wp; go_simp; first | done | exact Below.refl _ _)
        · (with_reducible refine FixB.of ?_ ?_; rfl; intro w' hS; have s9 := B1.out.below hS l1; have s0 := s9.cell 0; have s1 := s9.cell 1; simp only [List.getElem?_toArray, List.getElem?_cons_zero, List.getElem?_cons_succ] at s0 s1; clear s9 hS; unfold Oper.wp; go_simp; first | done | exact Below.refl _ _)
        · (with_reducible refine FixB.of ?_ ?_; rfl; intro w' hS; have s9 := B1.out.below hS l1; have s0 := s9.cell 0; have s1 := s9.cell 1; simp only [List.getElem?_toArray, List.getElem?_cons_zero, List.getElem?_cons_succ] at s0 s1; clear s9 hS; unfold Oper.wp; go_simp; first | done | exact Below.refl _ _)
        · (with_reducible refine FixB.of ?_ ?_; rfl; intro w' hS; have s9 := B1.out.below hS l1; have s0 := s9.cell 0; have s1 := s9.cell 1; simp only [List.getElem?_toArray, List.getElem?_cons_zero, List.getElem?_cons_succ] at s0 s1; clear s9 hS; unfold Oper.wp; go_simp; first | done | exact Below.refl _ _)
      case hQ =>
      intro wc hS _
      have HB2 := Lib.hid hS
      clear hS
      obtain ⟨w2, hw2⟩ : ∃ w2, w2 = wc := ⟨_, rfl⟩
      rw [← hw2] at HB2 ⊢
      have hg2 : w.grownBy w2 (some s) := grown_trans Hg1.out (grown_below HB2.out _)
      have b2 := B1.out.below HB2.out l1
      have l2 := b2.lt
      have hcod := Hc.out.below (bel_s hg2 hs1)
      obtain ⟨b, off, rfl, hbs, hcz⟩ := hcod.at_ (k := a) (by rw [Hl.out]; exact han)
      have hzv := hcod.val (k := a) (by rw [Hl.out]; exact han)
      have lb : b < w2.heap.size := by omega
      obtain ⟨z, hz⟩ : ∃ z, z = gi zs a := ⟨_, rfl⟩
      rw [← hz] at hcz hzv
      obtain ⟨y, hy⟩ : ∃ y : Int, y = (x : Int) + z := ⟨_, rfl⟩
      have hyy : (x : Int) + z = y := hy.symm
      have hy0 : 0 ≤ y := by omega
      have hyb : y < 16777472 := by omega
      have hwz : IntKind.i64.wrap z = z := IntWalk.i64_in _ ⟨by omega, by omega⟩
      have hwy : IntKind.i64.wrap y = y := IntWalk.i64_in _ ⟨by omega, by omega⟩
      have Cz := Lib.hid hcz
      have B2 := Lib.hid b2
      have Hg2 := Lib.hid hg2
      clear hw2 hcz b2 hcod hz hy hg2
      go_wp2_with fail
      refine wp_region_sameX [] rfl (by kernel_rfl) (by kernel_rfl) [5] (by kernel_rfl) (fun w' => Below w2.heap.size w2 w') _
        [I x, .pointer (some ⟨s, 0, none⟩), .pointer (some ⟨s, 0, none⟩), .pointer (some ⟨s, 0, none⟩), .slice (some ⟨b, off, none⟩) n c, .pointer (some ⟨s, 0, none⟩), .pointer (some ⟨s, 0, none⟩), .pointer (some ⟨s, 1, none⟩), I a, .pointer (some ⟨b, off + a, none⟩), .int .u8 z, I z, I y, I y]
        (by simp only [putAll, List.setIfInBounds_toArray, List.set_cons_succ, List.set_cons_zero]; rfl) [(5, I x)] rfl _
        (by simp only [setAll, List.setIfInBounds_toArray, List.set_cons_succ, List.set_cons_zero]; rfl) (by kernel_rfl) (fun w' w'' hS hb => hS.trans (hb.mono hS.size)) (Below.refl _ _).drew ?hop ?hQ
      case hop =>
        refine ⟨?_, ?_, ?_, ?_, ?_, ?_, ?_, ?_, ?_, ?_, ?_, ?_, ?_, ?_, trivial⟩
        · (refine FixX.of (by first | rfl | kernel_rfl | (simp [Region.wanted, yielded]; done)) ?_; intro w' hS; have s9 := B2.out.below hS l2; have s0 := s9.cell 0; have s1 := s9.cell 1; simp only [List.getElem?_toArray, List.getElem?_cons_zero, List.getElem?_cons_succ] at s0 s1; have s2 := (hS.cell (p := ⟨b, off + a, none⟩) lb).trans Cz.out; clear s9 hS; unfold Oper.wp; go_simp; first | done | exact Below.refl _ _ | exact ⟨rfl, Below.refl _ _⟩ | exact ⟨rfl, (fun t ht => by injection ht with ht; subst ht; rfl), Below.refl _ _⟩)
        · (refine FixX.of (by first | rfl | kernel_rfl | (simp [Region.wanted, yielded]; done)) ?_; intro w' hS; have s9 := B2.out.below hS l2; have s0 := s9.cell 0; have s1 := s9.cell 1; simp only [List.getElem?_toArray, List.getElem?_cons_zero, List.getElem?_cons_succ] at s0 s1; have s2 := (hS.cell (p := ⟨b, off + a, none⟩) lb).trans Cz.out; clear s9 hS; unfold Oper.wp; go_simp; first | done | exact Below.refl _ _ | exact ⟨rfl, Below.refl _ _⟩ | exact ⟨rfl, (fun t ht => by injection ht with ht; subst ht; rfl), Below.refl _ _⟩)
        · (refine FixX.of (by first | rfl | kernel_rfl | (simp [Region.wanted, yielded]; done)) ?_; intro w' hS; have s9 := B2.out.below hS l2; have s0 := s9.cell 0; have s1 := s9.cell 1; simp only [List.getElem?_toArray, List.getElem?_cons_zero, List.getElem?_cons_succ] at s0 s1; have s2 := (hS.cell (p := ⟨b, off + a, none⟩) lb).trans Cz.out; clear s9 hS; unfold Oper.wp; go_simp; first | done | exact Below.refl _ _ | exact ⟨rfl, Below.refl _ _⟩ | exact ⟨rfl, (fun t ht => by injection ht with ht; subst ht; rfl), Below.refl _ _⟩)
        · (refine FixX.of (by first | rfl | kernel_rfl | (simp [Region.wanted, yielded]; done)) ?_; intro w' hS; have s9 := B2.out.below hS l2; have s0 := s9.cell 0; have s1 := s9.cell 1; simp only [List.getElem?_toArray, List.getElem?_cons_zero, List.getElem?_cons_succ] at s0 s1; have s2 := (hS.cell (p := ⟨b, off + a, none⟩) lb).trans Cz.out; clear s9 hS; unfold Oper.wp; go_simp; first | done | exact Below.refl _ _ | exact ⟨rfl, Below.refl _ _⟩ | exact ⟨rfl, (fun t ht => by injection ht with ht; subst ht; rfl), Below.refl _ _⟩)
        · (refine FixX.of (by first | rfl | kernel_rfl | (simp [Region.wanted, yielded]; done)) ?_; intro w' hS; have s9 := B2.out.below hS l2; have s0 := s9.cell 0; have s1 := s9.cell 1; simp only [List.getElem?_toArray, List.getElem?_cons_zero, List.getElem?_cons_succ] at s0 s1; have s2 := (hS.cell (p := ⟨b, off + a, none⟩) lb).trans Cz.out; clear s9 hS; unfold Oper.wp; go_simp; first | done | exact Below.refl _ _ | exact ⟨rfl, Below.refl _ _⟩ | exact ⟨rfl, (fun t ht => by injection ht with ht; subst ht; rfl), Below.refl _ _⟩)
        · (refine FixX.of (by first | rfl | kernel_rfl | (simp [Region.wanted, yielded]; done)) ?_; intro w' hS; have s9 := B2.out.below hS l2; have s0 := s9.cell 0; have s1 := s9.cell 1; simp only [List.getElem?_toArray, List.getElem?_cons_zero, List.getElem?_cons_succ] at s0 s1; have s2 := (hS.cell (p := ⟨b, off + a, none⟩) lb).trans Cz.out; clear s9 hS; unfold Oper.wp; go_simp; first | done | exact Below.refl _ _ | exact ⟨rfl, Below.refl _ _⟩ | exact ⟨rfl, (fun t ht => by injection ht with ht; subst ht; rfl), Below.refl _ _⟩)
        · (refine FixX.of (by first | rfl | kernel_rfl | (simp [Region.wanted, yielded]; done)) ?_; intro w' hS; have s9 := B2.out.below hS l2; have s0 := s9.cell 0; have s1 := s9.cell 1; simp only [List.getElem?_toArray, List.getElem?_cons_zero, List.getElem?_cons_succ] at s0 s1; have s2 := (hS.cell (p := ⟨b, off + a, none⟩) lb).trans Cz.out; clear s9 hS; unfold Oper.wp; go_simp; first | done | exact Below.refl _ _ | exact ⟨rfl, Below.refl _ _⟩ | exact ⟨rfl, (fun t ht => by injection ht with ht; subst ht; rfl), Below.refl _ _⟩)
        · (refine FixX.of (by first | rfl | kernel_rfl | (simp [Region.wanted, yielded]; done)) ?_; intro w' hS; have s9 := B2.out.below hS l2; have s0 := s9.cell 0; have s1 := s9.cell 1; simp only [List.getElem?_toArray, List.getElem?_cons_zero, List.getElem?_cons_succ] at s0 s1; have s2 := (hS.cell (p := ⟨b, off + a, none⟩) lb).trans Cz.out; clear s9 hS; unfold Oper.wp; go_simp; first | done | exact Below.refl _ _ | exact ⟨rfl, Below.refl _ _⟩ | exact ⟨rfl, (fun t ht => by injection ht with ht; subst ht; rfl), Below.refl _ _⟩)
        · (refine FixX.of (by first | rfl | kernel_rfl | (simp [Region.wanted, yielded]; done)) ?_; intro w' hS; have s9 := B2.out.below hS l2; have s0 := s9.cell 0; have s1 := s9.cell 1; simp only [List.getElem?_toArray, List.getElem?_cons_zero, List.getElem?_cons_succ] at s0 s1; have s2 := (hS.cell (p := ⟨b, off + a, none⟩) lb).trans Cz.out; clear s9 hS; unfold Oper.wp; go_simp; first | done | exact Below.refl _ _ | exact ⟨rfl, Below.refl _ _⟩ | exact ⟨rfl, (fun t ht => by injection ht with ht; subst ht; rfl), Below.refl _ _⟩)
        · (refine FixX.of (by first | rfl | kernel_rfl | (simp [Region.wanted, yielded]; done)) ?_; intro w' hS; have s9 := B2.out.below hS l2; have s0 := s9.cell 0; have s1 := s9.cell 1; simp only [List.getElem?_toArray, List.getElem?_cons_zero, List.getElem?_cons_succ] at s0 s1; have s2 := (hS.cell (p := ⟨b, off + a, none⟩) lb).trans Cz.out; clear s9 hS; unfold Oper.wp; go_simp; first | done | exact Below.refl _ _ | exact ⟨rfl, Below.refl _ _⟩ | exact ⟨rfl, (fun t ht => by injection ht with ht; subst ht; rfl), Below.refl _ _⟩)
        · (refine FixX.of (by first | rfl | kernel_rfl | (simp [Region.wanted, yielded]; done)) ?_; intro w' hS; have s9 := B2.out.below hS l2; have s0 := s9.cell 0; have s1 := s9.cell 1; simp only [List.getElem?_toArray, List.getElem?_cons_zero, List.getElem?_cons_succ] at s0 s1; have s2 := (hS.cell (p := ⟨b, off + a, none⟩) lb).trans Cz.out; clear s9 hS; unfold Oper.wp; go_simp; first | done | exact Below.refl _ _ | exact ⟨rfl, Below.refl _ _⟩ | exact ⟨rfl, (fun t ht => by injection ht with ht; subst ht; rfl), Below.refl _ _⟩)
        · (refine FixX.of (by first | rfl | kernel_rfl | (simp [Region.wanted, yielded]; done)) ?_; intro w' hS; have s9 := B2.out.below hS l2; have s0 := s9.cell 0; have s1 := s9.cell 1; simp only [List.getElem?_toArray, List.getElem?_cons_zero, List.getElem?_cons_succ] at s0 s1; have s2 := (hS.cell (p := ⟨b, off + a, none⟩) lb).trans Cz.out; clear s9 hS; unfold Oper.wp; go_simp; first | done | exact Below.refl _ _ | exact ⟨rfl, Below.refl _ _⟩ | exact ⟨rfl, (fun t ht => by injection ht with ht; subst ht; rfl), Below.refl _ _⟩)
        · (refine FixX.of (by first | rfl | kernel_rfl | (simp [Region.wanted, yielded]; done)) ?_; intro w' hS; have s9 := B2.out.below hS l2; have s0 := s9.cell 0; have s1 := s9.cell 1; simp only [List.getElem?_toArray, List.getElem?_cons_zero, List.getElem?_cons_succ] at s0 s1; have s2 := (hS.cell (p := ⟨b, off + a, none⟩) lb).trans Cz.out; clear s9 hS; unfold Oper.wp; go_simp; first | done | exact Below.refl _ _ | exact ⟨rfl, Below.refl _ _⟩ | exact ⟨rfl, (fun t ht => by injection ht with ht; subst ht; rfl), Below.refl _ _⟩)
        · (refine FixX.of (by first | rfl | kernel_rfl | (simp [Region.wanted, yielded]; done)) ?_; intro w' hS; have s9 := B2.out.below hS l2; have s0 := s9.cell 0; have s1 := s9.cell 1; simp only [List.getElem?_toArray, List.getElem?_cons_zero, List.getElem?_cons_succ] at s0 s1; have s2 := (hS.cell (p := ⟨b, off + a, none⟩) lb).trans Cz.out; clear s9 hS; unfold Oper.wp; go_simp; first | done | exact Below.refl _ _ | exact ⟨rfl, Below.refl _ _⟩ | exact ⟨rfl, (fun t ht => by injection ht with ht; subst ht; rfl), Below.refl _ _⟩)
      case hQ =>
      intro wc hS
      have HB3 := Lib.hid hS
      clear hS
      have b3 := B2.out.below HB3.out l2
      have c1 := b3.cell 1
      have z1 := b3.frozen 1
      simp only [List.getElem?_toArray, List.getElem?_cons_zero, List.getElem?_cons_succ] at c1
      have B3 := Lib.hid b3
      have Hg3 := Lib.hid (grown_trans Hg2.out (grown_below HB3.out _))
      obtain ⟨r, hr⟩ : ∃ r, y.tmod k = r := ⟨_, rfl⟩
      have hr0 : 0 ≤ r ∧ r < k := by rw [← hr]; exact ⟨Int.tmod_nonneg k hy0, Int.tmod_lt_of_pos y (by omega)⟩
      clear b3
      have hry : r ≤ y := by
        rw [← hr, Int.tmod_eq_emod_of_nonneg hy0]
        by_cases e : k ≤ y
        · have := Int.emod_lt_of_pos y (show 0 < k by omega)
          omega
        · rw [Int.emod_eq_of_lt hy0 (by omega)]; exact Int.le_refl _
      have hwr : IntKind.i64.wrap r = r := IntWalk.i64_in _ ⟨by omega, by omega⟩
      have hk0 : ¬ (k = 0) := by omega
      have hwa : wrap64 ((a : Int) + 1) = (a : Int) + 1 := IntWalk.wrap64_in _ (by have := Hnb.out; exact ⟨by omega, by omega⟩)
      have hb4 : Blk (wc.setCell ⟨s, 1, none⟩ (I ((a : Int) + 1))) s TSrc #[.slice (some ⟨b, off, none⟩) n c, I ((a + 1 : Nat) : Int), .int .u64 h2] := (B3.out.set_ 1 (I ((a : Int) + 1))).cast (by simp only [List.setIfInBounds_toArray, List.set_cons_succ, List.set_cons_zero]; rw [show ((a : Int) + 1) = ((a + 1 : Nat) : Int) by omega])
      have Hb4 := Lib.hid hb4
      clear hb4 hyb hy0 hzv hyy hry
      have Hg4 := Lib.hid (grown_trans Hg3.out (grown_set wc ⟨s, 1, none⟩ (I ((a : Int) + 1))))
      go_wp2_with fail
      go_ret
      refine ⟨r, rfl, fun _ => hr0, fun h => absurd hkk (Int.not_le.2 h), ⟨⟨a + 1, h2, Nat.succ_le_of_lt han, hh2, Hb4.out⟩, Hc.out.below (bel_s Hg4.out hs1), Hl.out, Hnb.out⟩, Hg4.out⟩
    · have hanz : ¬ ((a : Int) < (n : Int)) := by omega
      go_enter Try.func37, Try.ntmps37
      go_wp2_with fail
      rw [← Hw1.out]
      refine wp_region_same [] rfl (by kernel_rfl) (by kernel_rfl) (by kernel_rfl) (fun w' => Below w1.heap.size w1 w') _
        [.pointer (some ⟨s, 0, none⟩), .pointer (some ⟨s, 0, none⟩), .pointer (some ⟨s, 1, none⟩), I a, .pointer (some ⟨s, 0, none⟩), .pointer (some ⟨s, 0, none⟩), .pointer (some ⟨s, 0, none⟩), .slice A n c, I n, .bool false]
        (by simp only [putAll, List.setIfInBounds_toArray, List.set_cons_succ, List.set_cons_zero]; rfl) (Below.refl _ _).drew ?hop ?hQ
      case hop =>
        refine FixBL.toL (fun w' w'' hS hb => hS.trans (hb.mono hS.size)) _ _ ?_
        refine ⟨.inr ?_, .inr ?_, .inr ?_, .inr ?_, .inr ?_, .inr ?_, .inr ?_, .inr ?_, .inr ?_, .inr ?_, trivial⟩
        · (with_reducible refine FixB.of ?_ ?_; rfl; intro w' hS; have s9 := B1.out.below hS l1; have s0 := s9.cell 0; have s1 := s9.cell 1; simp only [List.getElem?_toArray, List.getElem?_cons_zero, List.getElem?_cons_succ] at s0 s1; clear s9 hS; unfold Oper.wp; go_simp; first | done | exact Below.refl _ _)
        · (with_reducible refine FixB.of ?_ ?_; rfl; intro w' hS; have s9 := B1.out.below hS l1; have s0 := s9.cell 0; have s1 := s9.cell 1; simp only [List.getElem?_toArray, List.getElem?_cons_zero, List.getElem?_cons_succ] at s0 s1; clear s9 hS; unfold Oper.wp; go_simp; first | done | exact Below.refl _ _)
        · (with_reducible refine FixB.of ?_ ?_; rfl; intro w' hS; have s9 := B1.out.below hS l1; have s0 := s9.cell 0; have s1 := s9.cell 1; simp only [List.getElem?_toArray, List.getElem?_cons_zero, List.getElem?_cons_succ] at s0 s1; clear s9 hS; unfold Oper.wp; go_simp; first | done | exact Below.refl _ _)
        · (with_reducible refine FixB.of ?_ ?_; rfl; intro w' hS; have s9 := B1.out.below hS l1; have s0 := s9.cell 0; have s1 := s9.cell 1; simp only [List.getElem?_toArray, List.getElem?_cons_zero, List.getElem?_cons_succ] at s0 s1; clear s9 hS; unfold Oper.wp; go_simp; first | done | exact Below.refl _ _)
        · (with_reducible refine FixB.of ?_ ?_; rfl; intro w' hS; have s9 := B1.out.below hS l1; have s0 := s9.cell 0; have s1 := s9.cell 1; simp only [List.getElem?_toArray, List.getElem?_cons_zero, List.getElem?_cons_succ] at s0 s1; clear s9 hS; unfold Oper.wp; go_simp; first | done | exact Below.refl _ _)
        · (with_reducible refine FixB.of ?_ ?_; rfl; intro w' hS; have s9 := B1.out.below hS l1; have s0 := s9.cell 0; have s1 := s9.cell 1; simp only [List.getElem?_toArray, List.getElem?_cons_zero, List.getElem?_cons_succ] at s0 s1; clear s9 hS; unfold Oper.wp; go_simp; first | done | exact Below.refl _ _)
        · (with_reducible refine FixB.of ?_ ?_; rfl; intro w' hS; have s9 := B1.out.below hS l1; have s0 := s9.cell 0; have s1 := s9.cell 1; simp only [List.getElem?_toArray, List.getElem?_cons_zero, List.getElem?_cons_succ] at s0 s1; clear s9 hS; unfold Oper.wp; go_simp; first | done | exact Below.refl _ _)
        · (with_reducible refine FixB.of ?_ ?_; rfl; intro w' hS; have s9 := B1.out.below hS l1; have s0 := s9.cell 0; have s1 := s9.cell 1; simp only [List.getElem?_toArray, List.getElem?_cons_zero, List.getElem?_cons_succ] at s0 s1; clear s9 hS; unfold Oper.wp; go_simp; first | done | exact Below.refl _ _)
        · (with_reducible refine FixB.of ?_ ?_; rfl; intro w' hS; have s9 := B1.out.below hS l1; have s0 := s9.cell 0; have s1 := s9.cell 1; simp only [List.getElem?_toArray, List.getElem?_cons_zero, List.getElem?_cons_succ] at s0 s1; clear s9 hS; unfold Oper.wp; go_simp; first | done | exact Below.refl _ _)
        · (with_reducible refine FixB.of ?_ ?_; rfl; intro w' hS; have s9 := B1.out.below hS l1; have s0 := s9.cell 0; have s1 := s9.cell 1; simp only [List.getElem?_toArray, List.getElem?_cons_zero, List.getElem?_cons_succ] at s0 s1; clear s9 hS; unfold Oper.wp; go_simp; first | done | exact Below.refl _ _)
      case hQ =>
      intro wc hS _
      have HB2 := Lib.hid hS
      clear hS
      have hg2 : w.grownBy wc (some s) := grown_trans Hg1.out (grown_below HB2.out _)
      have b2 := B1.out.below HB2.out l1
      have B2 := Lib.hid b2
      have Hg2 := Lib.hid hg2
      obtain ⟨r, hr⟩ : ∃ r, (x : Int).tmod k = r := ⟨_, rfl⟩
      have hr0 : 0 ≤ r ∧ r < k := by rw [← hr]; exact ⟨Int.tmod_nonneg k (by omega), Int.tmod_lt_of_pos _ (by omega)⟩
      have hry : r ≤ (x : Int) := by
        rw [← hr, Int.tmod_eq_emod_of_nonneg (by omega)]
        by_cases e : k ≤ (x : Int)
        · have := Int.emod_lt_of_pos (x : Int) (show 0 < k by omega)
          omega
        · rw [Int.emod_eq_of_lt (by omega) (by omega)]; exact Int.le_refl _
      have hwr : IntKind.i64.wrap r = r := IntWalk.i64_in _ ⟨by omega, by omega⟩
      have hk0 : ¬ (k = 0) := by omega
      clear b2 hg2
      go_wp2_with fail
      go_ret
      exact ⟨r, rfl, fun _ => hr0, fun h => absurd hkk (Int.not_le.2 h), ⟨⟨a, h2, ha, hh2, B2.out⟩, Hc.out.below (bel_s Hg2.out hs1), Hl.out, Hnb.out⟩, Hg2.out⟩
end Go.Proofs.Ytkbfocoaobiijaa
