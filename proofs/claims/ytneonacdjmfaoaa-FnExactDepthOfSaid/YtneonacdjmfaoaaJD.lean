/- Contract of the program's depth of an element; the monoid has at most 300 elements. -/
import Derived.Test.YtneonacdjmfaoaaJ6
namespace Go.Proofs.Ytneonacdjmfaoaa
open Go.RowKit
set_option maxRecDepth 100000
set_option linter.unusedSimpArgs false
set_option linter.unusedVariables false

/-- the known depths: 0 or the depth -/
def Dps (E : List M) (zs : List Int) : Prop := zs.length = E.length ∧ ∀ j, j < E.length → gi zs j = 0 ∨ gi zs j = (depJ E j : Int)
def RetP2 (E : List M) (n0 gD : Nat) (w0 : World) (zs : List Int) (i : Nat) (e : Ending) (w' : World) : Prop :=
  e = .returned (I (depJ E i)) ∧ Below n0 w0 w' ∧ ∃ zs', OwI 2 w' n0 (.slice (some ⟨gD, 0, none⟩) E.length E.length) zs' ∧ Dps E zs' ∧ gi zs' i = (depJ E i : Int) ∧ ∀ j, j < E.length → gi zs j ≠ 0 → gi zs' j ≠ 0
def mostTo (E : List M) (i q : Nat) : Nat := mxTo (fun k => if underB E i k then depJ E k else 0) q
theorem mostTo_step (E : List M) (i q : Nat) : mostTo E i (q + 1) = max (mostTo E i q) (if underB E i q then depJ E q else 0) := rfl
theorem depJ_eq {n : Int} {E : List M} (hm : Mnd n E) {i : Nat} (hi : i < E.length) : depJ E i = 1 + mostTo E i E.length := dep_eq (downJ hm) hi
theorem depJ_pos {n : Int} {E : List M} (hm : Mnd n E) {i : Nat} (hi : i < E.length) : 0 < depJ E i := dep_pos (downJ hm) hi
theorem depJ_le {n : Int} {E : List M} (hm : Mnd n E) {i : Nat} (hi : i < E.length) : depJ E i ≤ E.length := by
  have h1 : depJ E i ≤ muJ E i := dep_le (downJ hm) _ i hi (Nat.le_refl _)
  have h2 := muJ_le E (i := i)
  have h3 := cntK_bd E 3
  omega
theorem underB_set {E : List M} (i k : Nat) (hk : k < E.length) : underB E i k = (jSet E i k && !sameK E 3 i k) := by
  unfold underB jSet
  rw [decide_eq_true hk, Bool.true_and, sameK_3]
theorem Dps.set {E : List M} {zs : List Int} (h : Dps E zs) {i : Nat} (hi : i < E.length) : Dps E (zs.set i (depJ E i)) := by
  refine ⟨by rw [List.length_set]; exact h.1, fun j hj => ?_⟩
  by_cases e : j = i
  · right
    subst e
    unfold gi
    rw [List.getD_eq_getElem?_getD, List.getElem?_set_self (by rw [h.1]; exact hj)]
    rfl
  · have := h.2 j hj
    unfold gi at this ⊢
    rw [List.getD_eq_getElem?_getD, List.getElem?_set_ne (fun h => e h.symm), ← List.getD_eq_getElem?_getD]
    exact this
theorem gi_set {zs : List Int} {i : Nat} (hi : i < zs.length) (z : Int) : gi (zs.set i z) i = z := by
  unfold gi
  rw [List.getD_eq_getElem?_getD, List.getElem?_set_self hi]
  rfl
theorem gi_set_ne {zs : List Int} {i j : Nat} (hij : i ≠ j) (z : Int) : gi (zs.set i z) j = gi zs j := by
  unfold gi
  rw [List.getD_eq_getElem?_getD, List.getElem?_set_ne hij, ← List.getD_eq_getElem?_getD]

theorem has_bel {n g i p : Nat} {P : Nat → Nat → Bool} (w : World) (h : Sts w g n P) (hi : i < n) (hp : p < 320) :
    Calls Try.prog 92 #[.pointer (some ⟨g, i * 5, none⟩), I p] w fun e w' => e = .returned (.bool (P i p)) ∧ Below w.heap.size w w' :=
  (has_any w h hi hp).mono fun _ _ hh => ⟨hh.1, by rw [← hh.2]; exact Below.refl _ _⟩

set_option maxHeartbeats 4000000 in
theorem depth_any {d gD : Nat} {n : Int} {E : List M} (w0 : World) (hI : IdeAt w0 d E) (hE : E.length ≤ 300) (hm : Mnd n E) : ∀ (b i : Nat), i < E.length → muJ E i ≤ b → ∀ (zs : List Int) (w : World),
    Below w0.heap.size w0 w → OwI 2 w w0.heap.size (.slice (some ⟨gD, 0, none⟩) E.length E.length) zs → Dps E zs →
    Calls Try.prog 55 #[.pointer (some ⟨d, 0, none⟩), I i, .slice (some ⟨gD, 0, none⟩) E.length E.length] w (RetP2 E w0.heap.size gD w0 zs i) := by
  intro b
  induction b with
  | zero =>
    intro i hi hb
    have := (downJ hm).pos i hi
    omega
  | succ b ih =>
    intro i hi hbi zs w hb0 ho hd
    have hdp := depJ_pos hm hi
    have hdl := depJ_le hm hi
    have hde := depJ_eq hm hi
    have hcase := hd.2 i hi
    obtain ⟨N, hN⟩ : ∃ N, E.length = N := ⟨_, rfl⟩
    rw [hN] at ho hi hE ⊢
    obtain ⟨c0, z0, hg0, hgb, hst⟩ := OwI.spotAt ho (k := i) (by rw [hd.1, hN]; exact hi)
    have hiz : (i : Int) < (N : Int) := by omega
    have HN := Lib.hid hN
    have Ih := Lib.hid ih
    have HI := Lib.hid hI
    have Hm := Lib.hid hm
    have Ho := Lib.hid ho
    have Hd := Lib.hid hd
    have Hb0 := Lib.hid hb0
    have hsz := hb0.size
    clear ih hI hm ho hd hb0
    by_cases hk : gi zs i = 0
    · rw [hk] at c0
      obtain ⟨gl, gr, gb, hI0⟩ := HI.out
      rw [HN.out] at hI0
      have cb := (hI0.below Hb0.out (Nat.le_refl _)).c2
      have HI0 := Lib.hid hI0
      have Hde := Lib.hid hde
      have Hdn : Hid (∀ q, q < N → underB E i q = true → muJ E q ≤ b) := fun q hq hu => by
        have := (downJ Hm.out).dn i q (by rw [HN.out]; exact hi) (by rw [HN.out]; exact hq) hu
        omega
      have HM300 : Hid (∀ q, q ≤ N → mostTo E i q ≤ 300) := fun q hq => mxTo_le fun j hj => by
        split
        · have := depJ_le Hm.out (i := j) (by rw [HN.out]; omega)
          rw [HN.out] at this
          omega
        · omega
      clear hst hI0 hdp hdl hde hcase hbi hg0 z0
      go_enter Try.func55, Try.ntmps55
      go_wp2_with fail
      clear c0 cb
      go_loopw [7, 23] (fun v t wr => ∃ (q : Nat) (ys : List Int), t = .int .i64 q ∧ q ≤ N ∧ v = I (mostTo E i q) ∧ Below w0.heap.size w0 wr ∧ OwI 2 wr w0.heap.size (.slice (some ⟨gD, 0, none⟩) N N) ys ∧ Dps E ys ∧ (∀ j, j < E.length → gi zs j ≠ 0 → gi ys j ≠ 0)) (fun _ t _ => N - (intOf t).toNat)
      case atStart => exact ⟨0, zs, rfl, by omega, rfl, Hb0.out, Ho.out, Hd.out, fun _ _ h => h⟩
      case round =>
        clear Ho Hb0
        obtain ⟨q, ys, rfl, hq, rfl, hbr, hor, hdr, hkr⟩ := hrel
        have Hbr := Lib.hid hbr
        have Hor := Lib.hid hor
        have Hdr := Lib.hid hdr
        have Hkr := Lib.hid hkr
        have hszr := hbr.size
        have hm3 := HM300.out q hq
        clear hbr hor hdr hkr
        by_cases hqN : q < N
        · have hqz : (q : Int) < (N : Int) := by omega
          have hq3 : q < 320 := by omega
          have Hu := Lib.hid (underB_set (E := E) i q (by rw [HN.out]; exact hqN))
          have Hs := Lib.hid (jSet_eq Hm.out (by rw [HN.out]; exact hE) (by rw [HN.out]; exact hi) (by rw [HN.out]; exact hqN) : setEq (jSet E i) (jSet E q) = sameK E 3 i q)
          have heq := eqSet_run (jSet E i) (jSet E q)
          obtain ⟨tt, htt⟩ : ∃ tt, tt = setEq (jSet E i) (jSet E q) := ⟨_, rfl⟩
          obtain ⟨t1, ht1⟩ : ∃ t1, t1 = jSet E i q := ⟨_, rfl⟩
          rw [← htt] at heq
          have Htt := Lib.hid htt
          have Ht1 : Hid (jSet E i q = t1) := ht1.symm
          have Hst := Lib.hid (mostTo_step E i q)
          clear htt ht1
          cases t1
          · have hu : underB E i q = false := by rw [Hu.out, Ht1.out]; rfl
            have Hm2 : Hid (mostTo E i (q + 1) = mostTo E i q) := by show _ = _; rw [Hst.out, hu]; simp
            clear hu heq
            go_wp2_with fail
            refine wp_region_same [] rfl (by kernel_rfl) (by kernel_rfl) (by kernel_rfl) (fun w' => Below wr.heap.size wr w') _
              [.pointer (some ⟨d, 0, none⟩), .pointer (some ⟨d, 0, none⟩), .pointer (some ⟨d, 2, none⟩), .slice (some ⟨gb, 0, none⟩) N N, I i, .pointer (some ⟨gb, i * 5, none⟩), I q, .bool false, .bool false, undef, undef, undef, undef, undef, undef, undef, undef, undef, undef, undef, undef, undef, undef, undef, .bool false]
              (by simp only [putAll, List.setIfInBounds_toArray, List.set_cons_succ, List.set_cons_zero]; rfl) (Below.refl _ _).drew ?hop ?hQ
            case hop =>
              refine FixBL.toL (fun w' w'' hS hb => hS.trans (hb.mono hS.size)) _ _ ?_
              refine ⟨.inr ?_, .inr ?_, .inr ?_, .inr ?_, .inr ?_, .inr ?_, .inr ?_, .inr ?_, .inr ?_, .inr ?_, .inr ?_, .inr ?_, .inr ?_, .inr ?_, .inr ?_, .inr ?_, .inr ?_, .inr ?_, .inr ?_, .inr ?_, .inr ?_, .inr ?_, .inr ?_, .inr ?_, .inr ?_, trivial⟩
              · (with_reducible refine FixB.of ?_ ?_; rfl; intro w' hS; have s9 := HI0.out.below (Hbr.out.trans (hS.mono hszr)) (Nat.le_refl _); have s0 := s9.c2; have s1 := s9.b.five hi; have s2 := s9.b.five hqN; clear s9 hS; unfold Oper.wp; go_simp; first | done | exact Below.refl _ _)
              · (with_reducible refine FixB.of ?_ ?_; rfl; intro w' hS; have s9 := HI0.out.below (Hbr.out.trans (hS.mono hszr)) (Nat.le_refl _); have s0 := s9.c2; have s1 := s9.b.five hi; have s2 := s9.b.five hqN; clear s9 hS; unfold Oper.wp; go_simp; first | done | exact Below.refl _ _)
              · (with_reducible refine FixB.of ?_ ?_; rfl; intro w' hS; have s9 := HI0.out.below (Hbr.out.trans (hS.mono hszr)) (Nat.le_refl _); have s0 := s9.c2; have s1 := s9.b.five hi; have s2 := s9.b.five hqN; clear s9 hS; unfold Oper.wp; go_simp; first | done | exact Below.refl _ _)
              · (with_reducible refine FixB.of ?_ ?_; rfl; intro w' hS; have s9 := HI0.out.below (Hbr.out.trans (hS.mono hszr)) (Nat.le_refl _); have s0 := s9.c2; have s1 := s9.b.five hi; have s2 := s9.b.five hqN; clear s9 hS; unfold Oper.wp; go_simp; first | done | exact Below.refl _ _)
              · (with_reducible refine FixB.of ?_ ?_; rfl; intro w' hS; have s9 := HI0.out.below (Hbr.out.trans (hS.mono hszr)) (Nat.le_refl _); have s0 := s9.c2; have s1 := s9.b.five hi; have s2 := s9.b.five hqN; clear s9 hS; unfold Oper.wp; go_simp; first | done | exact Below.refl _ _)
              · (with_reducible refine FixB.of ?_ ?_; rfl; intro w' hS; have s9 := HI0.out.below (Hbr.out.trans (hS.mono hszr)) (Nat.le_refl _); have s0 := s9.c2; have s1 := s9.b.five hi; have s2 := s9.b.five hqN; clear s9 hS; unfold Oper.wp; go_simp; first | done | exact Below.refl _ _)
              · (with_reducible refine FixB.of ?_ ?_; rfl; intro w' hS; have s9 := HI0.out.below (Hbr.out.trans (hS.mono hszr)) (Nat.le_refl _); have s0 := s9.c2; have s1 := s9.b.five hi; have s2 := s9.b.five hqN; clear s9 hS; unfold Oper.wp; go_simp; first | done | exact Below.refl _ _)
              · (with_reducible refine FixB.of ?_ ?_; rfl; intro w' hS; have s3 := Lib.hid hS; unfold Oper.wp; clear hS; go_simp; refine ((Ht1.out ▸ has_bel _ (HI0.out.below (Hbr.out.trans (s3.out.mono hszr)) (Nat.le_refl _)).b hi hq3)).mono ?_; rintro e w1 ⟨rfl, hb⟩; exact ⟨rfl, hb⟩)
              · (with_reducible refine FixB.of ?_ ?_; rfl; intro w' hS; have s9 := HI0.out.below (Hbr.out.trans (hS.mono hszr)) (Nat.le_refl _); have s0 := s9.c2; have s1 := s9.b.five hi; have s2 := s9.b.five hqN; clear s9 hS; unfold Oper.wp; go_simp; first | done | exact Below.refl _ _)
              · exact FixB.off (by first | rfl | kernel_rfl | (simp [Region.wanted, yielded]; done)) rfl
              · exact FixB.off (by first | rfl | kernel_rfl | (simp [Region.wanted, yielded]; done)) rfl
              · exact FixB.off (by first | rfl | kernel_rfl | (simp [Region.wanted, yielded]; done)) rfl
              · exact FixB.off (by first | rfl | kernel_rfl | (simp [Region.wanted, yielded]; done)) rfl
              · exact FixB.off (by first | rfl | kernel_rfl | (simp [Region.wanted, yielded]; done)) rfl
              · exact FixB.off (by first | rfl | kernel_rfl | (simp [Region.wanted, yielded]; done)) rfl
              · exact FixB.off (by first | rfl | kernel_rfl | (simp [Region.wanted, yielded]; done)) rfl
              · exact FixB.off (by first | rfl | kernel_rfl | (simp [Region.wanted, yielded]; done)) rfl
              · exact FixB.off (by first | rfl | kernel_rfl | (simp [Region.wanted, yielded]; done)) rfl
              · exact FixB.off (by first | rfl | kernel_rfl | (simp [Region.wanted, yielded]; done)) rfl
              · exact FixB.off (by first | rfl | kernel_rfl | (simp [Region.wanted, yielded]; done)) rfl
              · exact FixB.off (by first | rfl | kernel_rfl | (simp [Region.wanted, yielded]; done)) rfl
              · exact FixB.off (by first | rfl | kernel_rfl | (simp [Region.wanted, yielded]; done)) rfl
              · exact FixB.off (by first | rfl | kernel_rfl | (simp [Region.wanted, yielded]; done)) rfl
              · exact FixB.off (by first | rfl | kernel_rfl | (simp [Region.wanted, yielded]; done)) rfl
              · (with_reducible refine FixB.of ?_ ?_; rfl; intro w' hS; have s9 := HI0.out.below (Hbr.out.trans (hS.mono hszr)) (Nat.le_refl _); have s0 := s9.c2; have s1 := s9.b.five hi; have s2 := s9.b.five hqN; clear s9 hS; unfold Oper.wp; go_simp; first | done | exact Below.refl _ _)
            case hQ =>
            intro wc hS _
            have HB2 := Lib.hid hS
            clear hS
            have Hb2 := Lib.hid (Hbr.out.trans (HB2.out.mono hszr))
            have Ho2 := Lib.hid (Hor.out.below HB2.out (Nat.le_refl _))
            go_wp2_with fail
            refine ⟨⟨q + 1, ys, by go_num, by omega, by rw [Hm2.out], Hb2.out, Ho2.out, Hdr.out, Hkr.out⟩, by simp [intOf]; omega⟩
          · cases tt
            · have hu : underB E i q = true := by rw [Hu.out, Ht1.out, ← Hs.out, ← Htt.out]; rfl
              obtain ⟨m0, hm0⟩ : ∃ m0, m0 = mostTo E i q := ⟨_, rfl⟩
              obtain ⟨dq, hdq⟩ : ∃ dq, dq = depJ E q := ⟨_, rfl⟩
              have Hm2 : Hid (mostTo E i (q + 1) = max m0 dq) := by show _ = _; rw [Hst.out, hu, ← hm0, ← hdq]; rfl
              have Hmu := Lib.hid (Hdn.out q hqN hu)
              have Hdq := Lib.hid hdq
              rw [← hm0]
              clear hu hm0 hdq hm3
              go_wp2_with fail
              refine wp_region_same [] rfl (by kernel_rfl) (by kernel_rfl) (by kernel_rfl) (fun w' => Below wr.heap.size wr w') _
                [.pointer (some ⟨d, 0, none⟩), .pointer (some ⟨d, 0, none⟩), .pointer (some ⟨d, 2, none⟩), .slice (some ⟨gb, 0, none⟩) N N, I i, .pointer (some ⟨gb, i * 5, none⟩), I q, .bool true, .bool true, .pointer (some ⟨d, 0, none⟩), .pointer (some ⟨d, 0, none⟩), .pointer (some ⟨d, 2, none⟩), .slice (some ⟨gb, 0, none⟩) N N, I i, .pointer (some ⟨gb, i * 5, none⟩), .agg (sc (jSet E i)), .pointer (some ⟨d, 0, none⟩), .pointer (some ⟨d, 0, none⟩), .pointer (some ⟨d, 2, none⟩), .slice (some ⟨gb, 0, none⟩) N N, I q, .pointer (some ⟨gb, q * 5, none⟩), .agg (sc (jSet E q)), .bool true, .bool true]
                (by simp only [putAll, List.setIfInBounds_toArray, List.set_cons_succ, List.set_cons_zero]; rfl) (Below.refl _ _).drew ?hop ?hQ
              case hop =>
                refine FixBL.toL (fun w' w'' hS hb => hS.trans (hb.mono hS.size)) _ _ ?_
                refine ⟨.inr ?_, .inr ?_, .inr ?_, .inr ?_, .inr ?_, .inr ?_, .inr ?_, .inr ?_, .inr ?_, .inr ?_, .inr ?_, .inr ?_, .inr ?_, .inr ?_, .inr ?_, .inr ?_, .inr ?_, .inr ?_, .inr ?_, .inr ?_, .inr ?_, .inr ?_, .inr ?_, .inr ?_, .inr ?_, trivial⟩
                · (with_reducible refine FixB.of ?_ ?_; rfl; intro w' hS; have s9 := HI0.out.below (Hbr.out.trans (hS.mono hszr)) (Nat.le_refl _); have s0 := s9.c2; have s1 := s9.b.five hi; have s2 := s9.b.five hqN; clear s9 hS; unfold Oper.wp; go_simp; first | done | exact Below.refl _ _)
                · (with_reducible refine FixB.of ?_ ?_; rfl; intro w' hS; have s9 := HI0.out.below (Hbr.out.trans (hS.mono hszr)) (Nat.le_refl _); have s0 := s9.c2; have s1 := s9.b.five hi; have s2 := s9.b.five hqN; clear s9 hS; unfold Oper.wp; go_simp; first | done | exact Below.refl _ _)
                · (with_reducible refine FixB.of ?_ ?_; rfl; intro w' hS; have s9 := HI0.out.below (Hbr.out.trans (hS.mono hszr)) (Nat.le_refl _); have s0 := s9.c2; have s1 := s9.b.five hi; have s2 := s9.b.five hqN; clear s9 hS; unfold Oper.wp; go_simp; first | done | exact Below.refl _ _)
                · (with_reducible refine FixB.of ?_ ?_; rfl; intro w' hS; have s9 := HI0.out.below (Hbr.out.trans (hS.mono hszr)) (Nat.le_refl _); have s0 := s9.c2; have s1 := s9.b.five hi; have s2 := s9.b.five hqN; clear s9 hS; unfold Oper.wp; go_simp; first | done | exact Below.refl _ _)
                · (with_reducible refine FixB.of ?_ ?_; rfl; intro w' hS; have s9 := HI0.out.below (Hbr.out.trans (hS.mono hszr)) (Nat.le_refl _); have s0 := s9.c2; have s1 := s9.b.five hi; have s2 := s9.b.five hqN; clear s9 hS; unfold Oper.wp; go_simp; first | done | exact Below.refl _ _)
                · (with_reducible refine FixB.of ?_ ?_; rfl; intro w' hS; have s9 := HI0.out.below (Hbr.out.trans (hS.mono hszr)) (Nat.le_refl _); have s0 := s9.c2; have s1 := s9.b.five hi; have s2 := s9.b.five hqN; clear s9 hS; unfold Oper.wp; go_simp; first | done | exact Below.refl _ _)
                · (with_reducible refine FixB.of ?_ ?_; rfl; intro w' hS; have s9 := HI0.out.below (Hbr.out.trans (hS.mono hszr)) (Nat.le_refl _); have s0 := s9.c2; have s1 := s9.b.five hi; have s2 := s9.b.five hqN; clear s9 hS; unfold Oper.wp; go_simp; first | done | exact Below.refl _ _)
                · (with_reducible refine FixB.of ?_ ?_; rfl; intro w' hS; have s3 := Lib.hid hS; unfold Oper.wp; clear hS; go_simp; refine ((Ht1.out ▸ has_bel _ (HI0.out.below (Hbr.out.trans (s3.out.mono hszr)) (Nat.le_refl _)).b hi hq3)).mono ?_; rintro e w1 ⟨rfl, hb⟩; exact ⟨rfl, hb⟩)
                · (with_reducible refine FixB.of ?_ ?_; rfl; intro w' hS; have s9 := HI0.out.below (Hbr.out.trans (hS.mono hszr)) (Nat.le_refl _); have s0 := s9.c2; have s1 := s9.b.five hi; have s2 := s9.b.five hqN; clear s9 hS; unfold Oper.wp; go_simp; first | done | exact Below.refl _ _)
                · (refine FixB.on (by first | rfl | kernel_rfl | (simp [Region.wanted, yielded]; done)) ?_; intro w' hS; have s9 := HI0.out.below (Hbr.out.trans (hS.mono hszr)) (Nat.le_refl _); have s0 := s9.c2; have s1 := s9.b.five hi; have s2 := s9.b.five hqN; clear s9 hS; unfold Oper.wp; go_simp; first | done | exact Below.refl _ _)
                · (refine FixB.on (by first | rfl | kernel_rfl | (simp [Region.wanted, yielded]; done)) ?_; intro w' hS; have s9 := HI0.out.below (Hbr.out.trans (hS.mono hszr)) (Nat.le_refl _); have s0 := s9.c2; have s1 := s9.b.five hi; have s2 := s9.b.five hqN; clear s9 hS; unfold Oper.wp; go_simp; first | done | exact Below.refl _ _)
                · (refine FixB.on (by first | rfl | kernel_rfl | (simp [Region.wanted, yielded]; done)) ?_; intro w' hS; have s9 := HI0.out.below (Hbr.out.trans (hS.mono hszr)) (Nat.le_refl _); have s0 := s9.c2; have s1 := s9.b.five hi; have s2 := s9.b.five hqN; clear s9 hS; unfold Oper.wp; go_simp; first | done | exact Below.refl _ _)
                · (refine FixB.on (by first | rfl | kernel_rfl | (simp [Region.wanted, yielded]; done)) ?_; intro w' hS; have s9 := HI0.out.below (Hbr.out.trans (hS.mono hszr)) (Nat.le_refl _); have s0 := s9.c2; have s1 := s9.b.five hi; have s2 := s9.b.five hqN; clear s9 hS; unfold Oper.wp; go_simp; first | done | exact Below.refl _ _)
                · (refine FixB.on (by first | rfl | kernel_rfl | (simp [Region.wanted, yielded]; done)) ?_; intro w' hS; have s9 := HI0.out.below (Hbr.out.trans (hS.mono hszr)) (Nat.le_refl _); have s0 := s9.c2; have s1 := s9.b.five hi; have s2 := s9.b.five hqN; clear s9 hS; unfold Oper.wp; go_simp; first | done | exact Below.refl _ _)
                · (refine FixB.on (by first | rfl | kernel_rfl | (simp [Region.wanted, yielded]; done)) ?_; intro w' hS; have s9 := HI0.out.below (Hbr.out.trans (hS.mono hszr)) (Nat.le_refl _); have s0 := s9.c2; have s1 := s9.b.five hi; have s2 := s9.b.five hqN; clear s9 hS; unfold Oper.wp; go_simp; first | done | exact Below.refl _ _)
                · (refine FixB.on (by first | rfl | kernel_rfl | (simp [Region.wanted, yielded]; done)) ?_; intro w' hS; have s9 := HI0.out.below (Hbr.out.trans (hS.mono hszr)) (Nat.le_refl _); have s0 := s9.c2; have s1 := s9.b.five hi; have s2 := s9.b.five hqN; clear s9 hS; unfold Oper.wp; go_simp; first | done | exact Below.refl _ _)
                · (refine FixB.on (by first | rfl | kernel_rfl | (simp [Region.wanted, yielded]; done)) ?_; intro w' hS; have s9 := HI0.out.below (Hbr.out.trans (hS.mono hszr)) (Nat.le_refl _); have s0 := s9.c2; have s1 := s9.b.five hi; have s2 := s9.b.five hqN; clear s9 hS; unfold Oper.wp; go_simp; first | done | exact Below.refl _ _)
                · (refine FixB.on (by first | rfl | kernel_rfl | (simp [Region.wanted, yielded]; done)) ?_; intro w' hS; have s9 := HI0.out.below (Hbr.out.trans (hS.mono hszr)) (Nat.le_refl _); have s0 := s9.c2; have s1 := s9.b.five hi; have s2 := s9.b.five hqN; clear s9 hS; unfold Oper.wp; go_simp; first | done | exact Below.refl _ _)
                · (refine FixB.on (by first | rfl | kernel_rfl | (simp [Region.wanted, yielded]; done)) ?_; intro w' hS; have s9 := HI0.out.below (Hbr.out.trans (hS.mono hszr)) (Nat.le_refl _); have s0 := s9.c2; have s1 := s9.b.five hi; have s2 := s9.b.five hqN; clear s9 hS; unfold Oper.wp; go_simp; first | done | exact Below.refl _ _)
                · (refine FixB.on (by first | rfl | kernel_rfl | (simp [Region.wanted, yielded]; done)) ?_; intro w' hS; have s9 := HI0.out.below (Hbr.out.trans (hS.mono hszr)) (Nat.le_refl _); have s0 := s9.c2; have s1 := s9.b.five hi; have s2 := s9.b.five hqN; clear s9 hS; unfold Oper.wp; go_simp; first | done | exact Below.refl _ _)
                · (refine FixB.on (by first | rfl | kernel_rfl | (simp [Region.wanted, yielded]; done)) ?_; intro w' hS; have s9 := HI0.out.below (Hbr.out.trans (hS.mono hszr)) (Nat.le_refl _); have s0 := s9.c2; have s1 := s9.b.five hi; have s2 := s9.b.five hqN; clear s9 hS; unfold Oper.wp; go_simp; first | done | exact Below.refl _ _)
                · (refine FixB.on (by first | rfl | kernel_rfl | (simp [Region.wanted, yielded]; done)) ?_; intro w' hS; have s9 := HI0.out.below (Hbr.out.trans (hS.mono hszr)) (Nat.le_refl _); have s0 := s9.c2; have s1 := s9.b.five hi; have s2 := s9.b.five hqN; clear s9 hS; unfold Oper.wp; go_simp; first | done | exact Below.refl _ _)
                · (refine FixB.on (by first | rfl | kernel_rfl | (simp [Region.wanted, yielded]; done)) ?_; intro w' hS; have s9 := HI0.out.below (Hbr.out.trans (hS.mono hszr)) (Nat.le_refl _); have s0 := s9.c2; have s1 := s9.b.five hi; have s2 := s9.b.five hqN; clear s9 hS; unfold Oper.wp; go_simp; first | done | exact Below.refl _ _)
                · (refine FixB.on (by first | rfl | kernel_rfl | (simp [Region.wanted, yielded]; done)) ?_; intro w' hS; have s9 := HI0.out.below (Hbr.out.trans (hS.mono hszr)) (Nat.le_refl _); have s0 := s9.c2; have s1 := s9.b.five hi; have s2 := s9.b.five hqN; clear s9 hS; unfold Oper.wp; go_simp; first | done | exact Below.refl _ _)
                · (with_reducible refine FixB.of ?_ ?_; rfl; intro w' hS; have s9 := HI0.out.below (Hbr.out.trans (hS.mono hszr)) (Nat.le_refl _); have s0 := s9.c2; have s1 := s9.b.five hi; have s2 := s9.b.five hqN; clear s9 hS; unfold Oper.wp; go_simp; first | done | exact Below.refl _ _)
              case hQ =>
              intro wc hS _
              have HB2 := Lib.hid hS
              clear hS
              have Hb2 := Lib.hid (Hbr.out.trans (HB2.out.mono hszr))
              have Ho2 := Lib.hid (Hor.out.below HB2.out (Nat.le_refl _))
              clear heq
              go_wp2_with fail
              have hIH := Ih.out q (by rw [HN.out]; exact hqN) Hmu.out ys wc Hb2.out (by rw [HN.out]; exact Ho2.out) Hdr.out
              rw [HN.out] at hIH
              refine hIH.mono ?_
              rintro e w6 ⟨rfl, hb6, ys', ho6, hd6, _, hk6⟩
              rw [← Hdq.out]
              rw [HN.out] at ho6
              have Hb6 := Lib.hid hb6
              have Ho6 := Lib.hid ho6
              have Hd6 := Lib.hid hd6
              have Hk6 := Lib.hid hk6
              clear hIH hb6 ho6 hd6 hk6
              go_wp2_with fail
              refine ⟨⟨q + 1, ys', by go_num, by omega, by rw [Hm2.out]; congr 1; omega, Hb6.out, Ho6.out, Hd6.out, fun j hj h => Hk6.out j hj (Hkr.out j hj h)⟩, by simp [intOf]; omega⟩
            · have hu : underB E i q = false := by rw [Hu.out, Ht1.out, ← Hs.out, ← Htt.out]; rfl
              have Hm2 : Hid (mostTo E i (q + 1) = mostTo E i q) := by show _ = _; rw [Hst.out, hu]; simp
              clear hu
              go_wp2_with fail
              refine wp_region_same [] rfl (by kernel_rfl) (by kernel_rfl) (by kernel_rfl) (fun w' => Below wr.heap.size wr w') _
                [.pointer (some ⟨d, 0, none⟩), .pointer (some ⟨d, 0, none⟩), .pointer (some ⟨d, 2, none⟩), .slice (some ⟨gb, 0, none⟩) N N, I i, .pointer (some ⟨gb, i * 5, none⟩), I q, .bool true, .bool true, .pointer (some ⟨d, 0, none⟩), .pointer (some ⟨d, 0, none⟩), .pointer (some ⟨d, 2, none⟩), .slice (some ⟨gb, 0, none⟩) N N, I i, .pointer (some ⟨gb, i * 5, none⟩), .agg (sc (jSet E i)), .pointer (some ⟨d, 0, none⟩), .pointer (some ⟨d, 0, none⟩), .pointer (some ⟨d, 2, none⟩), .slice (some ⟨gb, 0, none⟩) N N, I q, .pointer (some ⟨gb, q * 5, none⟩), .agg (sc (jSet E q)), .bool false, .bool false]
                (by simp only [putAll, List.setIfInBounds_toArray, List.set_cons_succ, List.set_cons_zero]; rfl) (Below.refl _ _).drew ?hop ?hQ
              case hop =>
                refine FixBL.toL (fun w' w'' hS hb => hS.trans (hb.mono hS.size)) _ _ ?_
                refine ⟨.inr ?_, .inr ?_, .inr ?_, .inr ?_, .inr ?_, .inr ?_, .inr ?_, .inr ?_, .inr ?_, .inr ?_, .inr ?_, .inr ?_, .inr ?_, .inr ?_, .inr ?_, .inr ?_, .inr ?_, .inr ?_, .inr ?_, .inr ?_, .inr ?_, .inr ?_, .inr ?_, .inr ?_, .inr ?_, trivial⟩
                · (with_reducible refine FixB.of ?_ ?_; rfl; intro w' hS; have s9 := HI0.out.below (Hbr.out.trans (hS.mono hszr)) (Nat.le_refl _); have s0 := s9.c2; have s1 := s9.b.five hi; have s2 := s9.b.five hqN; clear s9 hS; unfold Oper.wp; go_simp; first | done | exact Below.refl _ _)
                · (with_reducible refine FixB.of ?_ ?_; rfl; intro w' hS; have s9 := HI0.out.below (Hbr.out.trans (hS.mono hszr)) (Nat.le_refl _); have s0 := s9.c2; have s1 := s9.b.five hi; have s2 := s9.b.five hqN; clear s9 hS; unfold Oper.wp; go_simp; first | done | exact Below.refl _ _)
                · (with_reducible refine FixB.of ?_ ?_; rfl; intro w' hS; have s9 := HI0.out.below (Hbr.out.trans (hS.mono hszr)) (Nat.le_refl _); have s0 := s9.c2; have s1 := s9.b.five hi; have s2 := s9.b.five hqN; clear s9 hS; unfold Oper.wp; go_simp; first | done | exact Below.refl _ _)
                · (with_reducible refine FixB.of ?_ ?_; rfl; intro w' hS; have s9 := HI0.out.below (Hbr.out.trans (hS.mono hszr)) (Nat.le_refl _); have s0 := s9.c2; have s1 := s9.b.five hi; have s2 := s9.b.five hqN; clear s9 hS; unfold Oper.wp; go_simp; first | done | exact Below.refl _ _)
                · (with_reducible refine FixB.of ?_ ?_; rfl; intro w' hS; have s9 := HI0.out.below (Hbr.out.trans (hS.mono hszr)) (Nat.le_refl _); have s0 := s9.c2; have s1 := s9.b.five hi; have s2 := s9.b.five hqN; clear s9 hS; unfold Oper.wp; go_simp; first | done | exact Below.refl _ _)
                · (with_reducible refine FixB.of ?_ ?_; rfl; intro w' hS; have s9 := HI0.out.below (Hbr.out.trans (hS.mono hszr)) (Nat.le_refl _); have s0 := s9.c2; have s1 := s9.b.five hi; have s2 := s9.b.five hqN; clear s9 hS; unfold Oper.wp; go_simp; first | done | exact Below.refl _ _)
                · (with_reducible refine FixB.of ?_ ?_; rfl; intro w' hS; have s9 := HI0.out.below (Hbr.out.trans (hS.mono hszr)) (Nat.le_refl _); have s0 := s9.c2; have s1 := s9.b.five hi; have s2 := s9.b.five hqN; clear s9 hS; unfold Oper.wp; go_simp; first | done | exact Below.refl _ _)
                · (with_reducible refine FixB.of ?_ ?_; rfl; intro w' hS; have s3 := Lib.hid hS; unfold Oper.wp; clear hS; go_simp; refine ((Ht1.out ▸ has_bel _ (HI0.out.below (Hbr.out.trans (s3.out.mono hszr)) (Nat.le_refl _)).b hi hq3)).mono ?_; rintro e w1 ⟨rfl, hb⟩; exact ⟨rfl, hb⟩)
                · (with_reducible refine FixB.of ?_ ?_; rfl; intro w' hS; have s9 := HI0.out.below (Hbr.out.trans (hS.mono hszr)) (Nat.le_refl _); have s0 := s9.c2; have s1 := s9.b.five hi; have s2 := s9.b.five hqN; clear s9 hS; unfold Oper.wp; go_simp; first | done | exact Below.refl _ _)
                · (refine FixB.on (by first | rfl | kernel_rfl | (simp [Region.wanted, yielded]; done)) ?_; intro w' hS; have s9 := HI0.out.below (Hbr.out.trans (hS.mono hszr)) (Nat.le_refl _); have s0 := s9.c2; have s1 := s9.b.five hi; have s2 := s9.b.five hqN; clear s9 hS; unfold Oper.wp; go_simp; first | done | exact Below.refl _ _)
                · (refine FixB.on (by first | rfl | kernel_rfl | (simp [Region.wanted, yielded]; done)) ?_; intro w' hS; have s9 := HI0.out.below (Hbr.out.trans (hS.mono hszr)) (Nat.le_refl _); have s0 := s9.c2; have s1 := s9.b.five hi; have s2 := s9.b.five hqN; clear s9 hS; unfold Oper.wp; go_simp; first | done | exact Below.refl _ _)
                · (refine FixB.on (by first | rfl | kernel_rfl | (simp [Region.wanted, yielded]; done)) ?_; intro w' hS; have s9 := HI0.out.below (Hbr.out.trans (hS.mono hszr)) (Nat.le_refl _); have s0 := s9.c2; have s1 := s9.b.five hi; have s2 := s9.b.five hqN; clear s9 hS; unfold Oper.wp; go_simp; first | done | exact Below.refl _ _)
                · (refine FixB.on (by first | rfl | kernel_rfl | (simp [Region.wanted, yielded]; done)) ?_; intro w' hS; have s9 := HI0.out.below (Hbr.out.trans (hS.mono hszr)) (Nat.le_refl _); have s0 := s9.c2; have s1 := s9.b.five hi; have s2 := s9.b.five hqN; clear s9 hS; unfold Oper.wp; go_simp; first | done | exact Below.refl _ _)
                · (refine FixB.on (by first | rfl | kernel_rfl | (simp [Region.wanted, yielded]; done)) ?_; intro w' hS; have s9 := HI0.out.below (Hbr.out.trans (hS.mono hszr)) (Nat.le_refl _); have s0 := s9.c2; have s1 := s9.b.five hi; have s2 := s9.b.five hqN; clear s9 hS; unfold Oper.wp; go_simp; first | done | exact Below.refl _ _)
                · (refine FixB.on (by first | rfl | kernel_rfl | (simp [Region.wanted, yielded]; done)) ?_; intro w' hS; have s9 := HI0.out.below (Hbr.out.trans (hS.mono hszr)) (Nat.le_refl _); have s0 := s9.c2; have s1 := s9.b.five hi; have s2 := s9.b.five hqN; clear s9 hS; unfold Oper.wp; go_simp; first | done | exact Below.refl _ _)
                · (refine FixB.on (by first | rfl | kernel_rfl | (simp [Region.wanted, yielded]; done)) ?_; intro w' hS; have s9 := HI0.out.below (Hbr.out.trans (hS.mono hszr)) (Nat.le_refl _); have s0 := s9.c2; have s1 := s9.b.five hi; have s2 := s9.b.five hqN; clear s9 hS; unfold Oper.wp; go_simp; first | done | exact Below.refl _ _)
                · (refine FixB.on (by first | rfl | kernel_rfl | (simp [Region.wanted, yielded]; done)) ?_; intro w' hS; have s9 := HI0.out.below (Hbr.out.trans (hS.mono hszr)) (Nat.le_refl _); have s0 := s9.c2; have s1 := s9.b.five hi; have s2 := s9.b.five hqN; clear s9 hS; unfold Oper.wp; go_simp; first | done | exact Below.refl _ _)
                · (refine FixB.on (by first | rfl | kernel_rfl | (simp [Region.wanted, yielded]; done)) ?_; intro w' hS; have s9 := HI0.out.below (Hbr.out.trans (hS.mono hszr)) (Nat.le_refl _); have s0 := s9.c2; have s1 := s9.b.five hi; have s2 := s9.b.five hqN; clear s9 hS; unfold Oper.wp; go_simp; first | done | exact Below.refl _ _)
                · (refine FixB.on (by first | rfl | kernel_rfl | (simp [Region.wanted, yielded]; done)) ?_; intro w' hS; have s9 := HI0.out.below (Hbr.out.trans (hS.mono hszr)) (Nat.le_refl _); have s0 := s9.c2; have s1 := s9.b.five hi; have s2 := s9.b.five hqN; clear s9 hS; unfold Oper.wp; go_simp; first | done | exact Below.refl _ _)
                · (refine FixB.on (by first | rfl | kernel_rfl | (simp [Region.wanted, yielded]; done)) ?_; intro w' hS; have s9 := HI0.out.below (Hbr.out.trans (hS.mono hszr)) (Nat.le_refl _); have s0 := s9.c2; have s1 := s9.b.five hi; have s2 := s9.b.five hqN; clear s9 hS; unfold Oper.wp; go_simp; first | done | exact Below.refl _ _)
                · (refine FixB.on (by first | rfl | kernel_rfl | (simp [Region.wanted, yielded]; done)) ?_; intro w' hS; have s9 := HI0.out.below (Hbr.out.trans (hS.mono hszr)) (Nat.le_refl _); have s0 := s9.c2; have s1 := s9.b.five hi; have s2 := s9.b.five hqN; clear s9 hS; unfold Oper.wp; go_simp; first | done | exact Below.refl _ _)
                · (refine FixB.on (by first | rfl | kernel_rfl | (simp [Region.wanted, yielded]; done)) ?_; intro w' hS; have s9 := HI0.out.below (Hbr.out.trans (hS.mono hszr)) (Nat.le_refl _); have s0 := s9.c2; have s1 := s9.b.five hi; have s2 := s9.b.five hqN; clear s9 hS; unfold Oper.wp; go_simp; first | done | exact Below.refl _ _)
                · (refine FixB.on (by first | rfl | kernel_rfl | (simp [Region.wanted, yielded]; done)) ?_; intro w' hS; have s9 := HI0.out.below (Hbr.out.trans (hS.mono hszr)) (Nat.le_refl _); have s0 := s9.c2; have s1 := s9.b.five hi; have s2 := s9.b.five hqN; clear s9 hS; unfold Oper.wp; go_simp; first | done | exact Below.refl _ _)
                · (refine FixB.on (by first | rfl | kernel_rfl | (simp [Region.wanted, yielded]; done)) ?_; intro w' hS; have s9 := HI0.out.below (Hbr.out.trans (hS.mono hszr)) (Nat.le_refl _); have s0 := s9.c2; have s1 := s9.b.five hi; have s2 := s9.b.five hqN; clear s9 hS; unfold Oper.wp; go_simp; first | done | exact Below.refl _ _)
                · (with_reducible refine FixB.of ?_ ?_; rfl; intro w' hS; have s9 := HI0.out.below (Hbr.out.trans (hS.mono hszr)) (Nat.le_refl _); have s0 := s9.c2; have s1 := s9.b.five hi; have s2 := s9.b.five hqN; clear s9 hS; unfold Oper.wp; go_simp; first | done | exact Below.refl _ _)
              case hQ =>
              intro wc hS _
              have HB2 := Lib.hid hS
              clear hS
              have Hb2 := Lib.hid (Hbr.out.trans (HB2.out.mono hszr))
              have Ho2 := Lib.hid (Hor.out.below HB2.out (Nat.le_refl _))
              clear heq
              go_wp2_with fail
              refine ⟨⟨q + 1, ys, by go_num, by omega, by rw [Hm2.out], Hb2.out, Ho2.out, Hdr.out, Hkr.out⟩, by simp [intOf]; omega⟩
        · obtain rfl : q = N := by omega
          have hqz : ¬ ((q : Int) < (q : Int)) := by omega
          obtain ⟨m0, hm0⟩ : ∃ m0, m0 = mostTo E i q := ⟨_, rfl⟩
          have HD : Hid ((depJ E i : Int) = (m0 : Int) + 1) := by show _ = _; rw [Hde.out, HN.out, ← hm0]; omega
          rw [← hm0] at hm3 ⊢
          obtain ⟨c1, z1, _, _, hst⟩ := OwI.spotAt Hor.out (k := i) (by rw [Hdr.out.1, HN.out]; exact hi)
          have hs2 := hst ((m0 : Int) + 1)
          rw [← HD.out] at hs2
          have Hs2 := Lib.hid hs2
          have Hb6 := Lib.hid (Hbr.out.setCell (p := ⟨gD, i, none⟩) hgb (I ((m0 : Int) + 1)))
          clear hst hs2 hm0
          go_wp2_with fail
          go_ret
          refine ⟨by rw [HD.out] <;> rfl, Hb6.out, ys.set i (depJ E i), by rw [HN.out]; have := Hs2.out; rw [HD.out] at this ⊢; exact this, Hdr.out.set (by rw [HN.out]; exact hi), gi_set (by rw [Hdr.out.1, HN.out]; exact hi) _, fun j hj h => ?_⟩
          by_cases e : i = j
          · subst e
            rw [gi_set (by rw [Hdr.out.1, HN.out]; exact hi)]
            have := depJ_pos Hm.out (i := i) (by rw [HN.out]; exact hi)
            omega
          · rw [gi_set_ne e]
            exact Hkr.out j hj h
    · have hk2 : gi zs i = (depJ E i : Int) := by
        rcases hcase with h | h
        · exact absurd h hk
        · exact h
      rw [hk2] at c0
      have Hk2 := Lib.hid hk2
      obtain ⟨dp, hdd⟩ : ∃ dp, dp = depJ E i := ⟨_, rfl⟩
      have Hdd := Lib.hid hdd
      rw [← hdd] at c0 hdp
      have hdz : (0 : Int) < (dp : Int) := by omega
      clear hk hk2 hcase hst hde hdd hdl
      go_enter Try.func55, Try.ntmps55
      go_wp2_with fail
      go_ret
      exact ⟨by rw [← Hdd.out] <;> rfl, Hb0.out, zs, by rw [HN.out]; exact Ho.out, Hd.out, Hk2.out, fun _ _ h => h⟩

/-- the greatest depth -/
def dpR (ms : List M) : Int := if monC ms [] = 0 then (depM (elR ms []) : Int) else 0
theorem dpR_bad {ms : List M} (h : monC ms [] ≠ 0) : dpR ms = 0 := if_neg h
theorem mxT_dep {E : List M} {zs : List Int} : ∀ {k : Nat}, (∀ j, j < k → gi zs j = (depJ E j : Int)) → 0 < k → mxT zs k = (mxTo (depJ E) k : Int)
  | 0, _, h => by omega
  | k + 1, h, _ => by
    rw [mxTo]
    have e := h k (by omega)
    show max (mxT zs k) (gi zs k) = _
    rw [e]
    rcases Nat.eq_zero_or_pos k with rfl | hk
    · simp only [mxT, mxTo]
      omega
    · rw [mxT_dep (fun j hj => h j (by omega)) hk]
      omega

set_option maxHeartbeats 2000000 in
theorem ImplDP_any (A : Option Addr) (n c : Nat) (ms : List M) (w : World) (hx : RdM w w.heap.size A ms) (hn : ms.length = n) (hA : A = none → n = 0 ∧ c = 0) (hb : n < 536870912) :
    Calls Try.prog 23 #[.slice A n c] w fun e w' => e = .returned (.tuple #[I (dpR ms), I (monC ms [])]) ∧ Below w.heap.size w w' := by
  obtain ⟨i0, hi, hz0, hz1, hz2⟩ := info_parts infoI
  have Hx := Lib.hid hx
  have Hn := Lib.hid hn
  have HA := Lib.hid hA
  clear hx hn hA
  by_cases hm : monC ms [] = 0
  · obtain ⟨E, ps, hE, _⟩ := monC_el hm
    have hR : dpR ms = (depM E : Int) := by unfold dpR; rw [if_pos hm, hE.r]
    have hlen := hE.len
    have hpos := hE.pos
    obtain ⟨N, hN⟩ : ∃ N, E.length = N := ⟨_, rfl⟩
    rw [hN] at hlen hpos
    have HR := Lib.hid hR
    have HN := Lib.hid hN
    have HE := Lib.hid hE
    have Hm := Lib.hid hm
    clear hE hR hm hN
    go_enter Try.func23, Try.ntmps23
    go_wp2_with fail
    refine (monoidOf_any A none n c 0 0 ms [] w Hx.out Rd.nil_ Hn.out rfl HA.out (fun _ => ⟨rfl, rfl⟩) (by omega)).mono ?_
    rintro e w3 ⟨r, v, rfl, hb3, hr0, hs⟩
    obtain ⟨g0, rfl, hM, hv⟩ := hs ps HE.out.clo Hm.out
    rw [← HE.out.eq] at hM
    rw [Hm.out]
    obtain ⟨Av, cv, hvv, hrv⟩ := hv.form
    subst hvv
    have HM := Lib.hid hM
    have Hb3 := Lib.hid hb3
    have hz3 := hb3.size
    clear hM hs hr0 hv hrv hb3
    go_wp2_with fail
    refine (ideals_any w3 HM.out HE.out.len HE.out.mnd).mono ?_
    rintro e w4 ⟨d, rfl, hI, hb4⟩
    have HI := Lib.hid hI
    have HM4 := HM.out.below hb4 (Nat.le_refl _)
    obtain ⟨_, ev, wv, pl, vs, hM2, _, hO2, _⟩ := HM4
    obtain ⟨gE, cE, rfl⟩ := hO2.some_ HE.out.pos
    have cm := hM2.c0
    rw [HN.out] at cm
    have Hb4 := Lib.hid (Hb3.out.trans (hb4.mono hz3))
    have hz4 := Hb4.out.size
    clear hI hb4 hM2 hO2
    have lm := World.block_lt_of_cell? w4 ⟨g0, 0, none⟩ cm
    go_wp2_with (at_make; refine wpList_make_full _ rfl _ _ _ rfl w4.heap.size 2 i0 (.int .i64 0) 1 Try.underlying24 hi hz0 hz1 .i64 .i64 _ _ N rfl rfl rfl rfl (by rw [hz2]; omega) (by unfold maxLen; omega) (Nat.le_refl _) ?_; intro w5 hown hgr; have Ho5 := Lib.hid (madeI hown); have Hb5 := Lib.hid ((Below.refl w4.heap.size w4).grown hgr (Nat.le_refl _) (fun k hk => by cases hk)); have cm5 := (Hb5.out.cell (p := ⟨g0, 0, none⟩) lm).trans cm; clear hown hgr)
    clear cm5 cm
    go_loopw [32] (fun t wr => ∃ (q : Nat) (ys : List Int), t = .int .i64 q ∧ q ≤ N ∧ Below w4.heap.size w4 wr ∧ OwI 2 wr w4.heap.size (.slice (some ⟨w4.heap.size, 0, none⟩) N N) ys ∧ Dps E ys ∧ (∀ j, j < q → gi ys j ≠ 0)) (fun t _ => N - (intOf t).toNat)
    case atStart => exact ⟨0, List.replicate N 0, rfl, by omega, Hb5.out, Ho5.out, ⟨by rw [List.length_replicate, HN.out], fun j hj => .inl (by rw [HN.out] at hj; unfold gi; rw [List.getD_eq_getElem?_getD, List.getElem?_replicate, if_pos hj]; rfl)⟩, fun j hj => by omega⟩
    case round =>
      clear Ho5 Hb5
      obtain ⟨q, ys, rfl, hq, hbr, hor, hdr, hkr⟩ := hrel
      have Hbr := Lib.hid hbr
      have Hor := Lib.hid hor
      have Hdr := Lib.hid hdr
      have Hkr := Lib.hid hkr
      have hszr := hbr.size
      clear hbr hor hdr hkr
      by_cases hqN : q < N
      · have hqz : (q : Int) < (N : Int) := by omega
        go_wp2_with fail
        have hD := depth_any (gD := w4.heap.size) w4 HI.out HE.out.len HE.out.mnd (muJ E q) q (by rw [HN.out]; exact hqN) (Nat.le_refl _) ys wr Hbr.out (by rw [HN.out]; exact Hor.out) Hdr.out
        rw [HN.out] at hD
        refine hD.mono ?_
        rintro e w6 ⟨rfl, hb6, ys', ho6, hd6, hq6, hk6⟩
        rw [HN.out] at ho6
        have Hb6 := Lib.hid hb6
        have Ho6 := Lib.hid ho6
        have Hd6 := Lib.hid hd6
        have Hk6 : Hid (∀ j, j < q + 1 → gi ys' j ≠ 0) := fun j hj => by
          by_cases e : j = q
          · subst e
            have := depJ_pos HE.out.mnd (i := j) (by rw [HN.out]; exact hqN)
            omega
          · exact hk6 j (by rw [HN.out]; omega) (Hkr.out j (by omega))
        clear hD hb6 ho6 hd6 hk6 hq6
        go_wp2_with fail
        refine ⟨⟨q + 1, ys', by go_num, by omega, Hb6.out, Ho6.out, Hd6.out, Hk6.out⟩, by simp [intOf]; omega⟩
      · obtain rfl : q = N := by omega
        have hqz : ¬ ((q : Int) < (q : Int)) := by omega
        have hall : ∀ j, j < q → gi ys j = (depJ E j : Int) := fun j hj => by
          rcases Hdr.out.2 j (by rw [HN.out]; exact hj) with h | h
          · exact absurd h (Hkr.out j hj)
          · exact h
        have HX : Hid (mxT ys q = (depM E : Int)) := by show _ = _; rw [mxT_dep hall hpos]; unfold depM; rw [HN.out]
        have Hbd : Hid (∀ j, j < q → 0 ≤ gi ys j ∧ gi ys j ≤ 300) := fun j hj => by
          rw [hall j hj]
          have := depJ_le HE.out.mnd (i := j) (by rw [HN.out]; exact hj)
          rw [HN.out] at this
          omega
        clear hall
        go_wp2_with fail
        refine (slMax_any (some ⟨w4.heap.size, 0, none⟩) q q ys wr Hor.out.rdA (by rw [Hdr.out.1, HN.out]) hpos hlen Hbd.out).mono ?_
        rintro e w7 ⟨rfl, hb7⟩
        rw [HX.out]
        have Hb7 := Lib.hid (Hb4.out.trans ((Hbr.out.trans (hb7.mono hszr)).mono hz4))
        clear hb7
        go_wp2_with fail
        go_ret2
        exact ⟨by rw [HR.out, Hm.out] <;> rfl, Hb7.out⟩
  · have hR := dpR_bad hm
    have hne : (monC ms [] != 0) = true := by simpa using hm
    have HR := Lib.hid hR
    have Hm := Lib.hid hm
    clear hR hm
    go_enter Try.func23, Try.ntmps23
    go_wp2_with fail
    refine (monoidOf_any A none n c 0 0 ms [] w Hx.out Rd.nil_ Hn.out rfl HA.out (fun _ => ⟨rfl, rfl⟩) (by omega)).mono ?_
    rintro e w3 ⟨r, v, rfl, hb3, hr0, hs⟩
    obtain ⟨rfl, rfl⟩ := hr0 Hm.out
    have Hb3 := Lib.hid hb3
    clear hs hr0 hb3
    go_wp2_with fail
    go_ret2
    exact ⟨by rw [HR.out] <;> rfl, Hb3.out⟩
end Go.Proofs.Ytneonacdjmfaoaa
