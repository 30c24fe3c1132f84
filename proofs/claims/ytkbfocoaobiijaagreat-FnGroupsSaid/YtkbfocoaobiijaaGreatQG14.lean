/- Contract of the program's depth of an element; the monoid has at most 300 elements. The law on groups in plain words: the class of an element with an idempotent is a group, its class is regular, and elements under others have no greater rank; no program in sight; the lists are as each theorem states. Plain laws of the reference's rounds for the depth; no program in sight. Contracts of ranks, inverses and renumbered maps, with their codes; no conditions beyond those that each theorem states. -/
import Derived.Test.YtkbfocoaobiijaaGreatQG12
set_option linter.unusedSimpArgs false
set_option linter.unusedVariables false
namespace Go.Proofs.YtkbfocoaobiijaaGreat
open Go.RowKit
set_option maxRecDepth 100000
set_option linter.unusedSimpArgs false
set_option linter.unusedVariables false
def Dps (E : List M) (zs : List Int) : Prop := zs.length = E.length ∧ ∀ j, j < E.length → gi zs j = 0 ∨ gi zs j = (depJ E j : Int)
def RetP2 (E : List M) (n0 gD : Nat) (w0 : World) (zs : List Int) (i : Nat) (e : Ending) (w' : World) : Prop :=
  e = .returned (I (depJ E i)) ∧ Below n0 w0 w' ∧ ∃ zs', OwI 2 w' n0 (.slice (some ⟨gD, 0, none⟩) E.length E.length) zs' ∧ Dps E zs' ∧ gi zs' i = (depJ E i : Int) ∧ ∀ j, j < E.length → gi zs j ≠ 0 → gi zs' j ≠ 0
def mostTo (E : List M) (i q : Nat) : Nat := mxTo (fun k => if underB E i k then depJ E k else 0) q
theorem mostTo_step (E : List M) (i q : Nat) : mostTo E i (q + 1) = max (mostTo E i q) (if underB E i q then depJ E q else 0) := rfl
theorem depJ_eq {n : Int} {E : List M} (hm : Mnd n E) {i : Nat} (hi : i < E.length) : depJ E i = 1 + mostTo E i E.length := dep_eq (downJ hm) hi
theorem depJ_pos {n : Int} {E : List M} (hm : Mnd n E) {i : Nat} (hi : i < E.length) : 0 < depJ E i := dep_pos (downJ hm) hi
theorem depJ_le {n : Int} {E : List M} (hm : Mnd n E) {i : Nat} (hi : i < E.length) : depJ E i ≤ E.length := by
  have h1 : depJ E i ≤ muJ E i := dep_le (downJ hm) _ i hi (Nat.le_refl _)
  have h2 := muJ_le E (i := i)
  have h3 := cntK_bd E 3
  omega
theorem underB_set {E : List M} (i k : Nat) (hk : k < E.length) : underB E i k = (jSet E i k && !sameK E 3 i k) := by
  unfold underB jSet
  rw [decide_eq_true hk, Bool.true_and, sameK_3]
theorem Dps.set {E : List M} {zs : List Int} (h : Dps E zs) {i : Nat} (hi : i < E.length) : Dps E (zs.set i (depJ E i)) := by
  refine ⟨by rw [List.length_set]; exact h.1, fun j hj => ?_⟩
  by_cases e : j = i
  · right
    subst e
    unfold gi
    rw [List.getD_eq_getElem?_getD, List.getElem?_set_self (by rw [h.1]; exact hj)]
    rfl
  · have := h.2 j hj
    unfold gi at this ⊢
    rw [List.getD_eq_getElem?_getD, List.getElem?_set_ne (fun h => e h.symm), ← List.getD_eq_getElem?_getD]
    exact this
theorem gi_put {zs : List Int} {i : Nat} (hi : i < zs.length) (z : Int) : gi (zs.set i z) i = z := by
  unfold gi
  rw [List.getD_eq_getElem?_getD, List.getElem?_set_self hi]
  rfl
theorem gi_put_ne {zs : List Int} {i j : Nat} (hij : i ≠ j) (z : Int) : gi (zs.set i z) j = gi zs j := by
  unfold gi
  rw [List.getD_eq_getElem?_getD, List.getElem?_set_ne hij, ← List.getD_eq_getElem?_getD]
theorem has_bel {n g i p : Nat} {P : Nat → Nat → Bool} (w : World) (h : Sts w g n P) (hi : i < n) (hp : p < 320) :
    Calls Tryz.prog 170 #[.pointer (some ⟨g, i * 5, none⟩), I p] w fun e w' => e = .returned (.bool (P i p)) ∧ Below w.heap.size w w' :=
  (has_any w h hi hp).mono fun _ _ hh => ⟨hh.1, by rw [← hh.2]; exact Below.refl _ _⟩
set_option maxHeartbeats 4000000 in
theorem depth_any {d gD : Nat} {n : Int} {E : List M} (w0 : World) (hI : IdeAt w0 d E) (hE : E.length ≤ 300) (hm : Mnd n E) : ∀ (b i : Nat), i < E.length → muJ E i ≤ b → ∀ (zs : List Int) (w : World),
    Below w0.heap.size w0 w → OwI 2 w w0.heap.size (.slice (some ⟨gD, 0, none⟩) E.length E.length) zs → Dps E zs →
    Calls Tryz.prog 171 #[.pointer (some ⟨d, 0, none⟩), I i, .slice (some ⟨gD, 0, none⟩) E.length E.length] w (RetP2 E w0.heap.size gD w0 zs i) := by
  intro b
  induction b with
  | zero =>
    intro i hi hb
    have := (downJ hm).pos i hi
    omega
  | succ b ih =>
    intro i hi hbi zs w hb0 ho hd
    have hdp := depJ_pos hm hi
    have hdl := depJ_le hm hi
    have hde := depJ_eq hm hi
    have hcase := hd.2 i hi
    obtain ⟨N, hN⟩ : ∃ N, E.length = N := ⟨_, rfl⟩
    rw [hN] at ho hi hE ⊢
    obtain ⟨c0, z0, hg0, hgb, hst⟩ := OwI.spotAt ho (k := i) (by rw [hd.1, hN]; exact hi)
    have hiz : (i : Int) < (N : Int) := by omega
    have HN := Lib.hid hN
    have Ih := Lib.hid ih
    have HI := Lib.hid hI
    have Hm := Lib.hid hm
    have Ho := Lib.hid ho
    have Hd := Lib.hid hd
    have Hb0 := Lib.hid hb0
    have hsz := hb0.size
    clear ih hI hm ho hd hb0
    by_cases hk : gi zs i = 0
    · rw [hk] at c0
      obtain ⟨gl, gr, gb, hI0⟩ := HI.out
      rw [HN.out] at hI0
      have cb := (hI0.below Hb0.out (Nat.le_refl _)).c2
      have HI0 := Lib.hid hI0
      have Hde := Lib.hid hde
      have Hdn : Hid (∀ q, q < N → underB E i q = true → muJ E q ≤ b) := fun q hq hu => by
        have := (downJ Hm.out).dn i q (by rw [HN.out]; exact hi) (by rw [HN.out]; exact hq) hu
        omega
      have HM300 : Hid (∀ q, q ≤ N → mostTo E i q ≤ 300) := fun q hq => mxTo_le fun j hj => by
        split
        · have := depJ_le Hm.out (i := j) (by rw [HN.out]; omega)
          rw [HN.out] at this
          omega
        · omega
      clear hst hI0 hdp hdl hde hcase hbi hg0 z0
      go_enter Tryz.func171, Tryz.ntmps171
      go_wp2_with fail
      clear c0 cb
      go_loopw [7, 23] (fun v t wr => ∃ (q : Nat) (ys : List Int), t = .int .i64 q ∧ q ≤ N ∧ v = I (mostTo E i q) ∧ Below w0.heap.size w0 wr ∧ OwI 2 wr w0.heap.size (.slice (some ⟨gD, 0, none⟩) N N) ys ∧ Dps E ys ∧ (∀ j, j < E.length → gi zs j ≠ 0 → gi ys j ≠ 0)) (fun _ t _ => N - (intOf t).toNat)
      case atStart => exact ⟨0, zs, rfl, by omega, rfl, Hb0.out, Ho.out, Hd.out, fun _ _ h => h⟩
      case round =>
        clear Ho Hb0
        obtain ⟨q, ys, rfl, hq, rfl, hbr, hor, hdr, hkr⟩ := hrel
        have Hbr := Lib.hid hbr
        have Hor := Lib.hid hor
        have Hdr := Lib.hid hdr
        have Hkr := Lib.hid hkr
        have hszr := hbr.size
        have hm3 := HM300.out q hq
        clear hbr hor hdr hkr
        by_cases hqN : q < N
        · have hqz : (q : Int) < (N : Int) := by omega
          have hq3 : q < 320 := by omega
          have Hu := Lib.hid (underB_set (E := E) i q (by rw [HN.out]; exact hqN))
          have Hs := Lib.hid (jSet_eq Hm.out (by rw [HN.out]; exact hE) (by rw [HN.out]; exact hi) (by rw [HN.out]; exact hqN) : setEq (jSet E i) (jSet E q) = sameK E 3 i q)
          have heq := eqSet_run (jSet E i) (jSet E q)
          obtain ⟨tt, htt⟩ : ∃ tt, tt = setEq (jSet E i) (jSet E q) := ⟨_, rfl⟩
          obtain ⟨t1, ht1⟩ : ∃ t1, t1 = jSet E i q := ⟨_, rfl⟩
          rw [← htt] at heq
          have Htt := Lib.hid htt
          have Ht1 : Hid (jSet E i q = t1) := ht1.symm
          have Hst := Lib.hid (mostTo_step E i q)
          clear htt ht1
          cases t1
          · have hu : underB E i q = false := by rw [Hu.out, Ht1.out]; rfl
            have Hm2 : Hid (mostTo E i (q + 1) = mostTo E i q) := by show _ = _; rw [Hst.out, hu]; simp
            clear hu heq
            go_wp2_with fail
            refine wp_region_same [] rfl (by kernel_rfl) (by kernel_rfl) (by kernel_rfl) (fun w' => Below wr.heap.size wr w') _
              [.pointer (some ⟨d, 0, none⟩), .pointer (some ⟨d, 0, none⟩), .pointer (some ⟨d, 2, none⟩), .slice (some ⟨gb, 0, none⟩) N N, I i, .pointer (some ⟨gb, i * 5, none⟩), I q, .bool false, .bool false, undef, undef, undef, undef, undef, undef, undef, undef, undef, undef, undef, undef, undef, undef, undef, .bool false]
              (by simp only [putAll, List.setIfInBounds_toArray, List.set_cons_succ, List.set_cons_zero]; rfl) (Below.refl _ _).drew ?hop ?hQ
            case hop =>
              refine FixBL.toL (fun w' w'' hS hb => hS.trans (hb.mono hS.size)) _ _ ?_
              refine ⟨.inr ?_, .inr ?_, .inr ?_, .inr ?_, .inr ?_, .inr ?_, .inr ?_, .inr ?_, .inr ?_, .inr ?_, .inr ?_, .inr ?_, .inr ?_, .inr ?_, .inr ?_, .inr ?_, .inr ?_, .inr ?_, .inr ?_, .inr ?_, .inr ?_, .inr ?_, .inr ?_, .inr ?_, .inr ?_, trivial⟩
              · (with_reducible refine FixB.of ?_ ?_; rfl; intro w' hS; have s9 := HI0.out.below (Hbr.out.trans (hS.mono hszr)) (Nat.le_refl _); have s0 := s9.c2; have s1 := s9.b.five hi; have s2 := s9.b.five hqN; clear s9 hS; unfold Oper.wp; go_simp; first | done | exact Below.refl _ _)
              · (with_reducible refine FixB.of ?_ ?_; rfl; intro w' hS; have s9 := HI0.out.below (Hbr.out.trans (hS.mono hszr)) (Nat.le_refl _); have s0 := s9.c2; have s1 := s9.b.five hi; have s2 := s9.b.five hqN; clear s9 hS; unfold Oper.wp; go_simp; first | done | exact Below.refl _ _)
              · (with_reducible refine FixB.of ?_ ?_; rfl; intro w' hS; have s9 := HI0.out.below (Hbr.out.trans (hS.mono hszr)) (Nat.le_refl _); have s0 := s9.c2; have s1 := s9.b.five hi; have s2 := s9.b.five hqN; clear s9 hS; unfold Oper.wp; go_simp; first | done | exact Below.refl _ _)
              · (with_reducible refine FixB.of ?_ ?_; rfl; intro w' hS; have s9 := HI0.out.below (Hbr.out.trans (hS.mono hszr)) (Nat.le_refl _); have s0 := s9.c2; have s1 := s9.b.five hi; have s2 := s9.b.five hqN; clear s9 hS; unfold Oper.wp; go_simp; first | done | exact Below.refl _ _)
              · (with_reducible refine FixB.of ?_ ?_; rfl; intro w' hS; have s9 := HI0.out.below (Hbr.out.trans (hS.mono hszr)) (Nat.le_refl _); have s0 := s9.c2; have s1 := s9.b.five hi; have s2 := s9.b.five hqN; clear s9 hS; unfold Oper.wp; go_simp; first | done | exact Below.refl _ _)
              · (with_reducible refine FixB.of ?_ ?_; rfl; intro w' hS; have s9 := HI0.out.below (Hbr.out.trans (hS.mono hszr)) (Nat.le_refl _); have s0 := s9.c2; have s1 := s9.b.five hi; have s2 := s9.b.five hqN; clear s9 hS; unfold Oper.wp; go_simp; first | done | exact Below.refl _ _)
              · (with_reducible refine FixB.of ?_ ?_; rfl; intro w' hS; have s9 := HI0.out.below (Hbr.out.trans (hS.mono hszr)) (Nat.le_refl _); have s0 := s9.c2; have s1 := s9.b.five hi; have s2 := s9.b.five hqN; clear s9 hS; unfold Oper.wp; go_simp; first | done | exact Below.refl _ _)
              · (with_reducible refine FixB.of ?_ ?_; rfl; intro w' hS; have s3 := Lib.hid hS; unfold Oper.wp; clear hS; go_simp; refine ((Ht1.out ▸ has_bel _ (HI0.out.below (Hbr.out.trans (s3.out.mono hszr)) (Nat.le_refl _)).b hi hq3)).mono ?_; rintro e w1 ⟨rfl, hb⟩; exact ⟨rfl, hb⟩)
              · (with_reducible refine FixB.of ?_ ?_; rfl; intro w' hS; have s9 := HI0.out.below (Hbr.out.trans (hS.mono hszr)) (Nat.le_refl _); have s0 := s9.c2; have s1 := s9.b.five hi; have s2 := s9.b.five hqN; clear s9 hS; unfold Oper.wp; go_simp; first | done | exact Below.refl _ _)
              · exact FixB.off (by first | rfl | kernel_rfl | (simp [Region.wanted, yielded]; done)) rfl
              · exact FixB.off (by first | rfl | kernel_rfl | (simp [Region.wanted, yielded]; done)) rfl
              · exact FixB.off (by first | rfl | kernel_rfl | (simp [Region.wanted, yielded]; done)) rfl
              · exact FixB.off (by first | rfl | kernel_rfl | (simp [Region.wanted, yielded]; done)) rfl
              · exact FixB.off (by first | rfl | kernel_rfl | (simp [Region.wanted, yielded]; done)) rfl
              · exact FixB.off (by first | rfl | kernel_rfl | (simp [Region.wanted, yielded]; done)) rfl
              · exact FixB.off (by first | rfl | kernel_rfl | (simp [Region.wanted, yielded]; done)) rfl
              · exact FixB.off (by first | rfl | kernel_rfl | (simp [Region.wanted, yielded]; done)) rfl
              · exact FixB.off (by first | rfl | kernel_rfl | (simp [Region.wanted, yielded]; done)) rfl
              · exact FixB.off (by first | rfl | kernel_rfl | (simp [Region.wanted, yielded]; done)) rfl
              · exact FixB.off (by first | rfl | kernel_rfl | (simp [Region.wanted, yielded]; done)) rfl
              · exact FixB.off (by first | rfl | kernel_rfl | (simp [Region.wanted, yielded]; done)) rfl
              · exact FixB.off (by first | rfl | kernel_rfl | (simp [Region.wanted, yielded]; done)) rfl
              · exact FixB.off (by first | rfl | kernel_rfl | (simp [Region.wanted, yielded]; done)) rfl
              · exact FixB.off (by first | rfl | kernel_rfl | (simp [Region.wanted, yielded]; done)) rfl
              · (with_reducible refine FixB.of ?_ ?_; rfl; intro w' hS; have s9 := HI0.out.below (Hbr.out.trans (hS.mono hszr)) (Nat.le_refl _); have s0 := s9.c2; have s1 := s9.b.five hi; have s2 := s9.b.five hqN; clear s9 hS; unfold Oper.wp; go_simp; first | done | exact Below.refl _ _)
            case hQ =>
            intro wc hS _
            have HB2 := Lib.hid hS
            clear hS
            have Hb2 := Lib.hid (Hbr.out.trans (HB2.out.mono hszr))
            have Ho2 := Lib.hid (Hor.out.below HB2.out (Nat.le_refl _))
            go_wp2_with fail
            refine ⟨⟨q + 1, ys, by go_num, by omega, by rw [Hm2.out], Hb2.out, Ho2.out, Hdr.out, Hkr.out⟩, by simp [intOf]; omega⟩
          · cases tt
            · have hu : underB E i q = true := by rw [Hu.out, Ht1.out, ← Hs.out, ← Htt.out]; rfl
              obtain ⟨m0, hm0⟩ : ∃ m0, m0 = mostTo E i q := ⟨_, rfl⟩
              obtain ⟨dq, hdq⟩ : ∃ dq, dq = depJ E q := ⟨_, rfl⟩
              have Hm2 : Hid (mostTo E i (q + 1) = max m0 dq) := by show _ = _; rw [Hst.out, hu, ← hm0, ← hdq]; rfl
              have Hmu := Lib.hid (Hdn.out q hqN hu)
              have Hdq := Lib.hid hdq
              rw [← hm0]
              clear hu hm0 hdq hm3
              go_wp2_with fail
              refine wp_region_same [] rfl (by kernel_rfl) (by kernel_rfl) (by kernel_rfl) (fun w' => Below wr.heap.size wr w') _
                [.pointer (some ⟨d, 0, none⟩), .pointer (some ⟨d, 0, none⟩), .pointer (some ⟨d, 2, none⟩), .slice (some ⟨gb, 0, none⟩) N N, I i, .pointer (some ⟨gb, i * 5, none⟩), I q, .bool true, .bool true, .pointer (some ⟨d, 0, none⟩), .pointer (some ⟨d, 0, none⟩), .pointer (some ⟨d, 2, none⟩), .slice (some ⟨gb, 0, none⟩) N N, I i, .pointer (some ⟨gb, i * 5, none⟩), .agg (sc (jSet E i)), .pointer (some ⟨d, 0, none⟩), .pointer (some ⟨d, 0, none⟩), .pointer (some ⟨d, 2, none⟩), .slice (some ⟨gb, 0, none⟩) N N, I q, .pointer (some ⟨gb, q * 5, none⟩), .agg (sc (jSet E q)), .bool true, .bool true]
                (by simp only [putAll, List.setIfInBounds_toArray, List.set_cons_succ, List.set_cons_zero]; rfl) (Below.refl _ _).drew ?hop ?hQ
              case hop =>
                refine FixBL.toL (fun w' w'' hS hb => hS.trans (hb.mono hS.size)) _ _ ?_
                refine ⟨.inr ?_, .inr ?_, .inr ?_, .inr ?_, .inr ?_, .inr ?_, .inr ?_, .inr ?_, .inr ?_, .inr ?_, .inr ?_, .inr ?_, .inr ?_, .inr ?_, .inr ?_, .inr ?_, .inr ?_, .inr ?_, .inr ?_, .inr ?_, .inr ?_, .inr ?_, .inr ?_, .inr ?_, .inr ?_, trivial⟩
                · (with_reducible refine FixB.of ?_ ?_; rfl; intro w' hS; have s9 := HI0.out.below (Hbr.out.trans (hS.mono hszr)) (Nat.le_refl _); have s0 := s9.c2; have s1 := s9.b.five hi; have s2 := s9.b.five hqN; clear s9 hS; unfold Oper.wp; go_simp; first | done | exact Below.refl _ _)
                · (with_reducible refine FixB.of ?_ ?_; rfl; intro w' hS; have s9 := HI0.out.below (Hbr.out.trans (hS.mono hszr)) (Nat.le_refl _); have s0 := s9.c2; have s1 := s9.b.five hi; have s2 := s9.b.five hqN; clear s9 hS; unfold Oper.wp; go_simp; first | done | exact Below.refl _ _)
                · (with_reducible refine FixB.of ?_ ?_; rfl; intro w' hS; have s9 := HI0.out.below (Hbr.out.trans (hS.mono hszr)) (Nat.le_refl _); have s0 := s9.c2; have s1 := s9.b.five hi; have s2 := s9.b.five hqN; clear s9 hS; unfold Oper.wp; go_simp; first | done | exact Below.refl _ _)
                · (with_reducible refine FixB.of ?_ ?_; rfl; intro w' hS; have s9 := HI0.out.below (Hbr.out.trans (hS.mono hszr)) (Nat.le_refl _); have s0 := s9.c2; have s1 := s9.b.five hi; have s2 := s9.b.five hqN; clear s9 hS; unfold Oper.wp; go_simp; first | done | exact Below.refl _ _)
                · (with_reducible refine FixB.of ?_ ?_; rfl; intro w' hS; have s9 := HI0.out.below (Hbr.out.trans (hS.mono hszr)) (Nat.le_refl _); have s0 := s9.c2; have s1 := s9.b.five hi; have s2 := s9.b.five hqN; clear s9 hS; unfold Oper.wp; go_simp; first | done | exact Below.refl _ _)
                · (with_reducible refine FixB.of ?_ ?_; rfl; intro w' hS; have s9 := HI0.out.below (Hbr.out.trans (hS.mono hszr)) (Nat.le_refl _); have s0 := s9.c2; have s1 := s9.b.five hi; have s2 := s9.b.five hqN; clear s9 hS; unfold Oper.wp; go_simp; first | done | exact Below.refl _ _)
                · (with_reducible refine FixB.of ?_ ?_; rfl; intro w' hS; have s9 := HI0.out.below (Hbr.out.trans (hS.mono hszr)) (Nat.le_refl _); have s0 := s9.c2; have s1 := s9.b.five hi; have s2 := s9.b.five hqN; clear s9 hS; unfold Oper.wp; go_simp; first | done | exact Below.refl _ _)
                · (with_reducible refine FixB.of ?_ ?_; rfl; intro w' hS; have s3 := Lib.hid hS; unfold Oper.wp; clear hS; go_simp; refine ((Ht1.out ▸ has_bel _ (HI0.out.below (Hbr.out.trans (s3.out.mono hszr)) (Nat.le_refl _)).b hi hq3)).mono ?_; rintro e w1 ⟨rfl, hb⟩; exact ⟨rfl, hb⟩)
                · (with_reducible refine FixB.of ?_ ?_; rfl; intro w' hS; have s9 := HI0.out.below (Hbr.out.trans (hS.mono hszr)) (Nat.le_refl _); have s0 := s9.c2; have s1 := s9.b.five hi; have s2 := s9.b.five hqN; clear s9 hS; unfold Oper.wp; go_simp; first | done | exact Below.refl _ _)
                · (refine FixB.on (by first | rfl | kernel_rfl | (simp [Region.wanted, yielded]; done)) ?_; intro w' hS; have s9 := HI0.out.below (Hbr.out.trans (hS.mono hszr)) (Nat.le_refl _); have s0 := s9.c2; have s1 := s9.b.five hi; have s2 := s9.b.five hqN; clear s9 hS; unfold Oper.wp; go_simp; first | done | exact Below.refl _ _)
                · (refine FixB.on (by first | rfl | kernel_rfl | (simp [Region.wanted, yielded]; done)) ?_; intro w' hS; have s9 := HI0.out.below (Hbr.out.trans (hS.mono hszr)) (Nat.le_refl _); have s0 := s9.c2; have s1 := s9.b.five hi; have s2 := s9.b.five hqN; clear s9 hS; unfold Oper.wp; go_simp; first | done | exact Below.refl _ _)
                · (refine FixB.on (by first | rfl | kernel_rfl | (simp [Region.wanted, yielded]; done)) ?_; intro w' hS; have s9 := HI0.out.below (Hbr.out.trans (hS.mono hszr)) (Nat.le_refl _); have s0 := s9.c2; have s1 := s9.b.five hi; have s2 := s9.b.five hqN; clear s9 hS; unfold Oper.wp; go_simp; first | done | exact Below.refl _ _)
                · (refine FixB.on (by first | rfl | kernel_rfl | (simp [Region.wanted, yielded]; done)) ?_; intro w' hS; have s9 := HI0.out.below (Hbr.out.trans (hS.mono hszr)) (Nat.le_refl _); have s0 := s9.c2; have s1 := s9.b.five hi; have s2 := s9.b.five hqN; clear s9 hS; unfold Oper.wp; go_simp; first | done | exact Below.refl _ _)
                · (refine FixB.on (by first | rfl | kernel_rfl | (simp [Region.wanted, yielded]; done)) ?_; intro w' hS; have s9 := HI0.out.below (Hbr.out.trans (hS.mono hszr)) (Nat.le_refl _); have s0 := s9.c2; have s1 := s9.b.five hi; have s2 := s9.b.five hqN; clear s9 hS; unfold Oper.wp; go_simp; first | done | exact Below.refl _ _)
                · (refine FixB.on (by first | rfl | kernel_rfl | (simp [Region.wanted, yielded]; done)) ?_; intro w' hS; have s9 := HI0.out.below (Hbr.out.trans (hS.mono hszr)) (Nat.le_refl _); have s0 := s9.c2; have s1 := s9.b.five hi; have s2 := s9.b.five hqN; clear s9 hS; unfold Oper.wp; go_simp; first | done | exact Below.refl _ _)
                · (refine FixB.on (by first | rfl | kernel_rfl | (simp [Region.wanted, yielded]; done)) ?_; intro w' hS; have s9 := HI0.out.below (Hbr.out.trans (hS.mono hszr)) (Nat.le_refl _); have s0 := s9.c2; have s1 := s9.b.five hi; have s2 := s9.b.five hqN; clear s9 hS; unfold Oper.wp; go_simp; first | done | exact Below.refl _ _)
                · (refine FixB.on (by first | rfl | kernel_rfl | (simp [Region.wanted, yielded]; done)) ?_; intro w' hS; have s9 := HI0.out.below (Hbr.out.trans (hS.mono hszr)) (Nat.le_refl _); have s0 := s9.c2; have s1 := s9.b.five hi; have s2 := s9.b.five hqN; clear s9 hS; unfold Oper.wp; go_simp; first | done | exact Below.refl _ _)
                · (refine FixB.on (by first | rfl | kernel_rfl | (simp [Region.wanted, yielded]; done)) ?_; intro w' hS; have s9 := HI0.out.below (Hbr.out.trans (hS.mono hszr)) (Nat.le_refl _); have s0 := s9.c2; have s1 := s9.b.five hi; have s2 := s9.b.five hqN; clear s9 hS; unfold Oper.wp; go_simp; first | done | exact Below.refl _ _)
                · (refine FixB.on (by first | rfl | kernel_rfl | (simp [Region.wanted, yielded]; done)) ?_; intro w' hS; have s9 := HI0.out.below (Hbr.out.trans (hS.mono hszr)) (Nat.le_refl _); have s0 := s9.c2; have s1 := s9.b.five hi; have s2 := s9.b.five hqN; clear s9 hS; unfold Oper.wp; go_simp; first | done | exact Below.refl _ _)
                · (refine FixB.on (by first | rfl | kernel_rfl | (simp [Region.wanted, yielded]; done)) ?_; intro w' hS; have s9 := HI0.out.below (Hbr.out.trans (hS.mono hszr)) (Nat.le_refl _); have s0 := s9.c2; have s1 := s9.b.five hi; have s2 := s9.b.five hqN; clear s9 hS; unfold Oper.wp; go_simp; first | done | exact Below.refl _ _)
                · (refine FixB.on (by first | rfl | kernel_rfl | (simp [Region.wanted, yielded]; done)) ?_; intro w' hS; have s9 := HI0.out.below (Hbr.out.trans (hS.mono hszr)) (Nat.le_refl _); have s0 := s9.c2; have s1 := s9.b.five hi; have s2 := s9.b.five hqN; clear s9 hS; unfold Oper.wp; go_simp; first | done | exact Below.refl _ _)
                · (refine FixB.on (by first | rfl | kernel_rfl | (simp [Region.wanted, yielded]; done)) ?_; intro w' hS; have s9 := HI0.out.below (Hbr.out.trans (hS.mono hszr)) (Nat.le_refl _); have s0 := s9.c2; have s1 := s9.b.five hi; have s2 := s9.b.five hqN; clear s9 hS; unfold Oper.wp; go_simp; first | done | exact Below.refl _ _)
                · (refine FixB.on (by first | rfl | kernel_rfl | (simp [Region.wanted, yielded]; done)) ?_; intro w' hS; have s9 := HI0.out.below (Hbr.out.trans (hS.mono hszr)) (Nat.le_refl _); have s0 := s9.c2; have s1 := s9.b.five hi; have s2 := s9.b.five hqN; clear s9 hS; unfold Oper.wp; go_simp; first | done | exact Below.refl _ _)
                · (refine FixB.on (by first | rfl | kernel_rfl | (simp [Region.wanted, yielded]; done)) ?_; intro w' hS; have s9 := HI0.out.below (Hbr.out.trans (hS.mono hszr)) (Nat.le_refl _); have s0 := s9.c2; have s1 := s9.b.five hi; have s2 := s9.b.five hqN; clear s9 hS; unfold Oper.wp; go_simp; first | done | exact Below.refl _ _)
                · (with_reducible refine FixB.of ?_ ?_; rfl; intro w' hS; have s9 := HI0.out.below (Hbr.out.trans (hS.mono hszr)) (Nat.le_refl _); have s0 := s9.c2; have s1 := s9.b.five hi; have s2 := s9.b.five hqN; clear s9 hS; unfold Oper.wp; go_simp; first | done | exact Below.refl _ _)
              case hQ =>
              intro wc hS _
              have HB2 := Lib.hid hS
              clear hS
              have Hb2 := Lib.hid (Hbr.out.trans (HB2.out.mono hszr))
              have Ho2 := Lib.hid (Hor.out.below HB2.out (Nat.le_refl _))
              clear heq
              go_wp2_with fail
              have hIH := Ih.out q (by rw [HN.out]; exact hqN) Hmu.out ys wc Hb2.out (by rw [HN.out]; exact Ho2.out) Hdr.out
              rw [HN.out] at hIH
              refine hIH.mono ?_
              rintro e w6 ⟨rfl, hb6, ys', ho6, hd6, _, hk6⟩
              rw [← Hdq.out]
              rw [HN.out] at ho6
              have Hb6 := Lib.hid hb6
              have Ho6 := Lib.hid ho6
              have Hd6 := Lib.hid hd6
              have Hk6 := Lib.hid hk6
              clear hIH hb6 ho6 hd6 hk6
              go_wp2_with fail
              refine ⟨⟨q + 1, ys', by go_num, by omega, by rw [Hm2.out]; congr 1; omega, Hb6.out, Ho6.out, Hd6.out, fun j hj h => Hk6.out j hj (Hkr.out j hj h)⟩, by simp [intOf]; omega⟩
            · have hu : underB E i q = false := by rw [Hu.out, Ht1.out, ← Hs.out, ← Htt.out]; rfl
              have Hm2 : Hid (mostTo E i (q + 1) = mostTo E i q) := by show _ = _; rw [Hst.out, hu]; simp
              clear hu
              go_wp2_with fail
              refine wp_region_same [] rfl (by kernel_rfl) (by kernel_rfl) (by kernel_rfl) (fun w' => Below wr.heap.size wr w') _
                [.pointer (some ⟨d, 0, none⟩), .pointer (some ⟨d, 0, none⟩), .pointer (some ⟨d, 2, none⟩), .slice (some ⟨gb, 0, none⟩) N N, I i, .pointer (some ⟨gb, i * 5, none⟩), I q, .bool true, .bool true, .pointer (some ⟨d, 0, none⟩), .pointer (some ⟨d, 0, none⟩), .pointer (some ⟨d, 2, none⟩), .slice (some ⟨gb, 0, none⟩) N N, I i, .pointer (some ⟨gb, i * 5, none⟩), .agg (sc (jSet E i)), .pointer (some ⟨d, 0, none⟩), .pointer (some ⟨d, 0, none⟩), .pointer (some ⟨d, 2, none⟩), .slice (some ⟨gb, 0, none⟩) N N, I q, .pointer (some ⟨gb, q * 5, none⟩), .agg (sc (jSet E q)), .bool false, .bool false]
                (by simp only [putAll, List.setIfInBounds_toArray, List.set_cons_succ, List.set_cons_zero]; rfl) (Below.refl _ _).drew ?hop ?hQ
              case hop =>
                refine FixBL.toL (fun w' w'' hS hb => hS.trans (hb.mono hS.size)) _ _ ?_
                refine ⟨.inr ?_, .inr ?_, .inr ?_, .inr ?_, .inr ?_, .inr ?_, .inr ?_, .inr ?_, .inr ?_, .inr ?_, .inr ?_, .inr ?_, .inr ?_, .inr ?_, .inr ?_, .inr ?_, .inr ?_, .inr ?_, .inr ?_, .inr ?_, .inr ?_, .inr ?_, .inr ?_, .inr ?_, .inr ?_, trivial⟩
                · (with_reducible refine FixB.of ?_ ?_; rfl; intro w' hS; have s9 := HI0.out.below (Hbr.out.trans (hS.mono hszr)) (Nat.le_refl _); have s0 := s9.c2; have s1 := s9.b.five hi; have s2 := s9.b.five hqN; clear s9 hS; unfold Oper.wp; go_simp; first | done | exact Below.refl _ _)
                · (with_reducible refine FixB.of ?_ ?_; rfl; intro w' hS; have s9 := HI0.out.below (Hbr.out.trans (hS.mono hszr)) (Nat.le_refl _); have s0 := s9.c2; have s1 := s9.b.five hi; have s2 := s9.b.five hqN; clear s9 hS; unfold Oper.wp; go_simp; first | done | exact Below.refl _ _)
                · (with_reducible refine FixB.of ?_ ?_; rfl; intro w' hS; have s9 := HI0.out.below (Hbr.out.trans (hS.mono hszr)) (Nat.le_refl _); have s0 := s9.c2; have s1 := s9.b.five hi; have s2 := s9.b.five hqN; clear s9 hS; unfold Oper.wp; go_simp; first | done | exact Below.refl _ _)
                · (with_reducible refine FixB.of ?_ ?_; rfl; intro w' hS; have s9 := HI0.out.below (Hbr.out.trans (hS.mono hszr)) (Nat.le_refl _); have s0 := s9.c2; have s1 := s9.b.five hi; have s2 := s9.b.five hqN; clear s9 hS; unfold Oper.wp; go_simp; first | done | exact Below.refl _ _)
                · (with_reducible refine FixB.of ?_ ?_; rfl; intro w' hS; have s9 := HI0.out.below (Hbr.out.trans (hS.mono hszr)) (Nat.le_refl _); have s0 := s9.c2; have s1 := s9.b.five hi; have s2 := s9.b.five hqN; clear s9 hS; unfold Oper.wp; go_simp; first | done | exact Below.refl _ _)
                · (with_reducible refine FixB.of ?_ ?_; rfl; intro w' hS; have s9 := HI0.out.below (Hbr.out.trans (hS.mono hszr)) (Nat.le_refl _); have s0 := s9.c2; have s1 := s9.b.five hi; have s2 := s9.b.five hqN; clear s9 hS; unfold Oper.wp; go_simp; first | done | exact Below.refl _ _)
                · (with_reducible refine FixB.of ?_ ?_; rfl; intro w' hS; have s9 := HI0.out.below (Hbr.out.trans (hS.mono hszr)) (Nat.le_refl _); have s0 := s9.c2; have s1 := s9.b.five hi; have s2 := s9.b.five hqN; clear s9 hS; unfold Oper.wp; go_simp; first | done | exact Below.refl _ _)
                · (with_reducible refine FixB.of ?_ ?_; rfl; intro w' hS; have s3 := Lib.hid hS; unfold Oper.wp; clear hS; go_simp; refine ((Ht1.out ▸ has_bel _ (HI0.out.below (Hbr.out.trans (s3.out.mono hszr)) (Nat.le_refl _)).b hi hq3)).mono ?_; rintro e w1 ⟨rfl, hb⟩; exact ⟨rfl, hb⟩)
                · (with_reducible refine FixB.of ?_ ?_; rfl; intro w' hS; have s9 := HI0.out.below (Hbr.out.trans (hS.mono hszr)) (Nat.le_refl _); have s0 := s9.c2; have s1 := s9.b.five hi; have s2 := s9.b.five hqN; clear s9 hS; unfold Oper.wp; go_simp; first | done | exact Below.refl _ _)
                · (refine FixB.on (by first | rfl | kernel_rfl | (simp [Region.wanted, yielded]; done)) ?_; intro w' hS; have s9 := HI0.out.below (Hbr.out.trans (hS.mono hszr)) (Nat.le_refl _); have s0 := s9.c2; have s1 := s9.b.five hi; have s2 := s9.b.five hqN; clear s9 hS; unfold Oper.wp; go_simp; first | done | exact Below.refl _ _)
                · (refine FixB.on (by first | rfl | kernel_rfl | (simp [Region.wanted, yielded]; done)) ?_; intro w' hS; have s9 := HI0.out.below (Hbr.out.trans (hS.mono hszr)) (Nat.le_refl _); have s0 := s9.c2; have s1 := s9.b.five hi; have s2 := s9.b.five hqN; clear s9 hS; unfold Oper.wp; go_simp; first | done | exact Below.refl _ _)
                · (refine FixB.on (by first | rfl | kernel_rfl | (simp [Region.wanted, yielded]; done)) ?_; intro w' hS; have s9 := HI0.out.below (Hbr.out.trans (hS.mono hszr)) (Nat.le_refl _); have s0 := s9.c2; have s1 := s9.b.five hi; have s2 := s9.b.five hqN; clear s9 hS; unfold Oper.wp; go_simp; first | done | exact Below.refl _ _)
                · (refine FixB.on (by first | rfl | kernel_rfl | (simp [Region.wanted, yielded]; done)) ?_; intro w' hS; have s9 := HI0.out.below (Hbr.out.trans (hS.mono hszr)) (Nat.le_refl _); have s0 := s9.c2; have s1 := s9.b.five hi; have s2 := s9.b.five hqN; clear s9 hS; unfold Oper.wp; go_simp; first | done | exact Below.refl _ _)
                · (refine FixB.on (by first | rfl | kernel_rfl | (simp [Region.wanted, yielded]; done)) ?_; intro w' hS; have s9 := HI0.out.below (Hbr.out.trans (hS.mono hszr)) (Nat.le_refl _); have s0 := s9.c2; have s1 := s9.b.five hi; have s2 := s9.b.five hqN; clear s9 hS; unfold Oper.wp; go_simp; first | done | exact Below.refl _ _)
                · (refine FixB.on (by first | rfl | kernel_rfl | (simp [Region.wanted, yielded]; done)) ?_; intro w' hS; have s9 := HI0.out.below (Hbr.out.trans (hS.mono hszr)) (Nat.le_refl _); have s0 := s9.c2; have s1 := s9.b.five hi; have s2 := s9.b.five hqN; clear s9 hS; unfold Oper.wp; go_simp; first | done | exact Below.refl _ _)
                · (refine FixB.on (by first | rfl | kernel_rfl | (simp [Region.wanted, yielded]; done)) ?_; intro w' hS; have s9 := HI0.out.below (Hbr.out.trans (hS.mono hszr)) (Nat.le_refl _); have s0 := s9.c2; have s1 := s9.b.five hi; have s2 := s9.b.five hqN; clear s9 hS; unfold Oper.wp; go_simp; first | done | exact Below.refl _ _)
                · (refine FixB.on (by first | rfl | kernel_rfl | (simp [Region.wanted, yielded]; done)) ?_; intro w' hS; have s9 := HI0.out.below (Hbr.out.trans (hS.mono hszr)) (Nat.le_refl _); have s0 := s9.c2; have s1 := s9.b.five hi; have s2 := s9.b.five hqN; clear s9 hS; unfold Oper.wp; go_simp; first | done | exact Below.refl _ _)
                · (refine FixB.on (by first | rfl | kernel_rfl | (simp [Region.wanted, yielded]; done)) ?_; intro w' hS; have s9 := HI0.out.below (Hbr.out.trans (hS.mono hszr)) (Nat.le_refl _); have s0 := s9.c2; have s1 := s9.b.five hi; have s2 := s9.b.five hqN; clear s9 hS; unfold Oper.wp; go_simp; first | done | exact Below.refl _ _)
                · (refine FixB.on (by first | rfl | kernel_rfl | (simp [Region.wanted, yielded]; done)) ?_; intro w' hS; have s9 := HI0.out.below (Hbr.out.trans (hS.mono hszr)) (Nat.le_refl _); have s0 := s9.c2; have s1 := s9.b.five hi; have s2 := s9.b.five hqN; clear s9 hS; unfold Oper.wp; go_simp; first | done | exact Below.refl _ _)
                · (refine FixB.on (by first | rfl | kernel_rfl | (simp [Region.wanted, yielded]; done)) ?_; intro w' hS; have s9 := HI0.out.below (Hbr.out.trans (hS.mono hszr)) (Nat.le_refl _); have s0 := s9.c2; have s1 := s9.b.five hi; have s2 := s9.b.five hqN; clear s9 hS; unfold Oper.wp; go_simp; first | done | exact Below.refl _ _)
                · (refine FixB.on (by first | rfl | kernel_rfl | (simp [Region.wanted, yielded]; done)) ?_; intro w' hS; have s9 := HI0.out.below (Hbr.out.trans (hS.mono hszr)) (Nat.le_refl _); have s0 := s9.c2; have s1 := s9.b.five hi; have s2 := s9.b.five hqN; clear s9 hS; unfold Oper.wp; go_simp; first | done | exact Below.refl _ _)
                · (refine FixB.on (by first | rfl | kernel_rfl | (simp [Region.wanted, yielded]; done)) ?_; intro w' hS; have s9 := HI0.out.below (Hbr.out.trans (hS.mono hszr)) (Nat.le_refl _); have s0 := s9.c2; have s1 := s9.b.five hi; have s2 := s9.b.five hqN; clear s9 hS; unfold Oper.wp; go_simp; first | done | exact Below.refl _ _)
                · (refine FixB.on (by first | rfl | kernel_rfl | (simp [Region.wanted, yielded]; done)) ?_; intro w' hS; have s9 := HI0.out.below (Hbr.out.trans (hS.mono hszr)) (Nat.le_refl _); have s0 := s9.c2; have s1 := s9.b.five hi; have s2 := s9.b.five hqN; clear s9 hS; unfold Oper.wp; go_simp; first | done | exact Below.refl _ _)
                · (refine FixB.on (by first | rfl | kernel_rfl | (simp [Region.wanted, yielded]; done)) ?_; intro w' hS; have s9 := HI0.out.below (Hbr.out.trans (hS.mono hszr)) (Nat.le_refl _); have s0 := s9.c2; have s1 := s9.b.five hi; have s2 := s9.b.five hqN; clear s9 hS; unfold Oper.wp; go_simp; first | done | exact Below.refl _ _)
                · (with_reducible refine FixB.of ?_ ?_; rfl; intro w' hS; have s9 := HI0.out.below (Hbr.out.trans (hS.mono hszr)) (Nat.le_refl _); have s0 := s9.c2; have s1 := s9.b.five hi; have s2 := s9.b.five hqN; clear s9 hS; unfold Oper.wp; go_simp; first | done | exact Below.refl _ _)
              case hQ =>
              intro wc hS _
              have HB2 := Lib.hid hS
              clear hS
              have Hb2 := Lib.hid (Hbr.out.trans (HB2.out.mono hszr))
              have Ho2 := Lib.hid (Hor.out.below HB2.out (Nat.le_refl _))
              clear heq
              go_wp2_with fail
              refine ⟨⟨q + 1, ys, by go_num, by omega, by rw [Hm2.out], Hb2.out, Ho2.out, Hdr.out, Hkr.out⟩, by simp [intOf]; omega⟩
        · obtain rfl : q = N := by omega
          have hqz : ¬ ((q : Int) < (q : Int)) := by omega
          obtain ⟨m0, hm0⟩ : ∃ m0, m0 = mostTo E i q := ⟨_, rfl⟩
          have HD : Hid ((depJ E i : Int) = (m0 : Int) + 1) := by show _ = _; rw [Hde.out, HN.out, ← hm0]; omega
          rw [← hm0] at hm3 ⊢
          obtain ⟨c1, z1, _, _, hst⟩ := OwI.spotAt Hor.out (k := i) (by rw [Hdr.out.1, HN.out]; exact hi)
          have hs2 := hst ((m0 : Int) + 1)
          rw [← HD.out] at hs2
          have Hs2 := Lib.hid hs2
          have Hb6 := Lib.hid (Hbr.out.setCell (p := ⟨gD, i, none⟩) hgb (I ((m0 : Int) + 1)))
          clear hst hs2 hm0
          go_wp2_with fail
          go_ret
          refine ⟨by rw [HD.out] <;> rfl, Hb6.out, ys.set i (depJ E i), by rw [HN.out]; have := Hs2.out; rw [HD.out] at this ⊢; exact this, Hdr.out.set (by rw [HN.out]; exact hi), gi_put (by rw [Hdr.out.1, HN.out]; exact hi) _, fun j hj h => ?_⟩
          by_cases e : i = j
          · subst e
            rw [gi_put (by rw [Hdr.out.1, HN.out]; exact hi)]
            have := depJ_pos Hm.out (i := i) (by rw [HN.out]; exact hi)
            omega
          · rw [gi_put_ne e]
            exact Hkr.out j hj h
    · have hk2 : gi zs i = (depJ E i : Int) := by
        rcases hcase with h | h
        · exact absurd h hk
        · exact h
      rw [hk2] at c0
      have Hk2 := Lib.hid hk2
      obtain ⟨dp, hdd⟩ : ∃ dp, dp = depJ E i := ⟨_, rfl⟩
      have Hdd := Lib.hid hdd
      rw [← hdd] at c0 hdp
      have hdz : (0 : Int) < (dp : Int) := by omega
      clear hk hk2 hcase hst hde hdd hdl
      go_enter Tryz.func171, Tryz.ntmps171
      go_wp2_with fail
      go_ret
      exact ⟨by rw [← Hdd.out] <;> rfl, Hb0.out, zs, by rw [HN.out]; exact Ho.out, Hd.out, Hk2.out, fun _ _ h => h⟩
def dpR (ms : List M) : Int := if monC ms [] = 0 then (depM (elR ms []) : Int) else 0
theorem dpR_bad {ms : List M} (h : monC ms [] ≠ 0) : dpR ms = 0 := if_neg h
theorem mxT_dep {E : List M} {zs : List Int} : ∀ {k : Nat}, (∀ j, j < k → gi zs j = (depJ E j : Int)) → 0 < k → mxT zs k = (mxTo (depJ E) k : Int)
  | 0, _, h => by omega
  | k + 1, h, _ => by
    rw [mxTo]
    have e := h k (by omega)
    show max (mxT zs k) (gi zs k) = _
    rw [e]
    rcases Nat.eq_zero_or_pos k with rfl | hk
    · simp only [mxT, mxTo]
      omega
    · rw [mxT_dep (fun j hj => h j (by omega)) hk]
      omega
set_option maxHeartbeats 2000000 in
theorem ImplDP_any (A : Option Addr) (n c : Nat) (ms : List M) (w : World) (hx : RdM w w.heap.size A ms) (hn : ms.length = n) (hA : A = none → n = 0 ∧ c = 0) (hb : n < 536870912) :
    Calls Tryz.prog 62 #[.slice A n c] w fun e w' => e = .returned (.tuple #[I (dpR ms), I (monC ms [])]) ∧ Below w.heap.size w w' := by
  obtain ⟨i0, hi, hz0, hz1, hz2⟩ := info_parts infoI
  have Hx := Lib.hid hx
  have Hn := Lib.hid hn
  have HA := Lib.hid hA
  clear hx hn hA
  by_cases hm : monC ms [] = 0
  · obtain ⟨E, ps, hE, _⟩ := monC_el hm
    have hR : dpR ms = (depM E : Int) := by unfold dpR; rw [if_pos hm, hE.r]
    have hlen := hE.len
    have hpos := hE.pos
    obtain ⟨N, hN⟩ : ∃ N, E.length = N := ⟨_, rfl⟩
    rw [hN] at hlen hpos
    have HR := Lib.hid hR
    have HN := Lib.hid hN
    have HE := Lib.hid hE
    have Hm := Lib.hid hm
    clear hE hR hm hN
    go_enter Tryz.func62, Tryz.ntmps62
    go_wp2_with fail
    refine (monoidOf_any A none n c 0 0 ms [] w Hx.out Rd.nil_ Hn.out rfl HA.out (fun _ => ⟨rfl, rfl⟩) (by omega)).mono ?_
    rintro e w3 ⟨r, v, rfl, hb3, hr0, hs⟩
    obtain ⟨g0, rfl, hM, hv⟩ := hs ps HE.out.clo Hm.out
    rw [← HE.out.eq] at hM
    rw [Hm.out]
    obtain ⟨Av, cv, hvv, hrv⟩ := hv.form
    subst hvv
    have HM := Lib.hid hM
    have Hb3 := Lib.hid hb3
    have hz3 := hb3.size
    clear hM hs hr0 hv hrv hb3
    go_wp2_with fail
    refine (ideals_any w3 HM.out HE.out.len HE.out.mnd).mono ?_
    rintro e w4 ⟨d, rfl, hI, hb4⟩
    have HI := Lib.hid hI
    have HM4 := HM.out.below hb4 (Nat.le_refl _)
    obtain ⟨_, ev, wv, pl, vs, hM2, _, hO2, _⟩ := HM4
    obtain ⟨gE, cE, rfl⟩ := hO2.some_ HE.out.pos
    have cm := hM2.c0
    rw [HN.out] at cm
    have Hb4 := Lib.hid (Hb3.out.trans (hb4.mono hz3))
    have hz4 := Hb4.out.size
    clear hI hb4 hM2 hO2
    have lm := World.block_lt_of_cell? w4 ⟨g0, 0, none⟩ cm
    go_wp2_with (at_make; refine wpList_make_full _ rfl _ _ _ rfl w4.heap.size 2 i0 (.int .i64 0) 1 Tryz.underlying39 hi hz0 hz1 .i64 .i64 _ _ N rfl rfl rfl rfl (by rw [hz2]; omega) (by unfold maxLen; omega) (Nat.le_refl _) ?_; intro w5 hown hgr; have Ho5 := Lib.hid (madeI hown); have Hb5 := Lib.hid ((Below.refl w4.heap.size w4).grown hgr (Nat.le_refl _) (fun k hk => by cases hk)); have cm5 := (Hb5.out.cell (p := ⟨g0, 0, none⟩) lm).trans cm; clear hown hgr)
    clear cm5 cm
    go_loopw [32] (fun t wr => ∃ (q : Nat) (ys : List Int), t = .int .i64 q ∧ q ≤ N ∧ Below w4.heap.size w4 wr ∧ OwI 2 wr w4.heap.size (.slice (some ⟨w4.heap.size, 0, none⟩) N N) ys ∧ Dps E ys ∧ (∀ j, j < q → gi ys j ≠ 0)) (fun t _ => N - (intOf t).toNat)
    case atStart => exact ⟨0, List.replicate N 0, rfl, by omega, Hb5.out, Ho5.out, ⟨by rw [List.length_replicate, HN.out], fun j hj => .inl (by rw [HN.out] at hj; unfold gi; rw [List.getD_eq_getElem?_getD, List.getElem?_replicate, if_pos hj]; rfl)⟩, fun j hj => by omega⟩
    case round =>
      clear Ho5 Hb5
      obtain ⟨q, ys, rfl, hq, hbr, hor, hdr, hkr⟩ := hrel
      have Hbr := Lib.hid hbr
      have Hor := Lib.hid hor
      have Hdr := Lib.hid hdr
      have Hkr := Lib.hid hkr
      have hszr := hbr.size
      clear hbr hor hdr hkr
      by_cases hqN : q < N
      · have hqz : (q : Int) < (N : Int) := by omega
        go_wp2_with fail
        have hD := depth_any (gD := w4.heap.size) w4 HI.out HE.out.len HE.out.mnd (muJ E q) q (by rw [HN.out]; exact hqN) (Nat.le_refl _) ys wr Hbr.out (by rw [HN.out]; exact Hor.out) Hdr.out
        rw [HN.out] at hD
        refine hD.mono ?_
        rintro e w6 ⟨rfl, hb6, ys', ho6, hd6, hq6, hk6⟩
        rw [HN.out] at ho6
        have Hb6 := Lib.hid hb6
        have Ho6 := Lib.hid ho6
        have Hd6 := Lib.hid hd6
        have Hk6 : Hid (∀ j, j < q + 1 → gi ys' j ≠ 0) := fun j hj => by
          by_cases e : j = q
          · subst e
            have := depJ_pos HE.out.mnd (i := j) (by rw [HN.out]; exact hqN)
            omega
          · exact hk6 j (by rw [HN.out]; omega) (Hkr.out j (by omega))
        clear hD hb6 ho6 hd6 hk6 hq6
        go_wp2_with fail
        refine ⟨⟨q + 1, ys', by go_num, by omega, Hb6.out, Ho6.out, Hd6.out, Hk6.out⟩, by simp [intOf]; omega⟩
      · obtain rfl : q = N := by omega
        have hqz : ¬ ((q : Int) < (q : Int)) := by omega
        have hall : ∀ j, j < q → gi ys j = (depJ E j : Int) := fun j hj => by
          rcases Hdr.out.2 j (by rw [HN.out]; exact hj) with h | h
          · exact absurd h (Hkr.out j hj)
          · exact h
        have HX : Hid (mxT ys q = (depM E : Int)) := by show _ = _; rw [mxT_dep hall hpos]; unfold depM; rw [HN.out]
        have Hbd : Hid (∀ j, j < q → 0 ≤ gi ys j ∧ gi ys j ≤ 300) := fun j hj => by
          rw [hall j hj]
          have := depJ_le HE.out.mnd (i := j) (by rw [HN.out]; exact hj)
          rw [HN.out] at this
          omega
        clear hall
        go_wp2_with fail
        refine (slMax_any (some ⟨w4.heap.size, 0, none⟩) q q ys wr Hor.out.rdA (by rw [Hdr.out.1, HN.out]) hpos hlen Hbd.out).mono ?_
        rintro e w7 ⟨rfl, hb7⟩
        rw [HX.out]
        have Hb7 := Lib.hid (Hb4.out.trans ((Hbr.out.trans (hb7.mono hszr)).mono hz4))
        clear hb7
        go_wp2_with fail
        go_ret2
        exact ⟨by rw [HR.out, Hm.out] <;> rfl, Hb7.out⟩
  · have hR := dpR_bad hm
    have hne : (monC ms [] != 0) = true := by simpa using hm
    have HR := Lib.hid hR
    have Hm := Lib.hid hm
    clear hR hm
    go_enter Tryz.func62, Tryz.ntmps62
    go_wp2_with fail
    refine (monoidOf_any A none n c 0 0 ms [] w Hx.out Rd.nil_ Hn.out rfl HA.out (fun _ => ⟨rfl, rfl⟩) (by omega)).mono ?_
    rintro e w3 ⟨r, v, rfl, hb3, hr0, hs⟩
    obtain ⟨rfl, rfl⟩ := hr0 Hm.out
    have Hb3 := Lib.hid hb3
    clear hs hr0 hb3
    go_wp2_with fail
    go_ret2
    exact ⟨by rw [HR.out] <;> rfl, Hb3.out⟩
end Go.Proofs.YtkbfocoaobiijaaGreat

namespace Go.Proofs.YtkbfocoaobiijaaGreat
open Go.RowKit
set_option maxRecDepth 100000
section
variable {n : Int} {E : List M} {e a b : M}
theorem grp_r (hm : Mnd n E) (he : e ∈ E) (hi : mul e e = e) (h : eqH E a e) : mul a e = a := by
  obtain ⟨x, hx, rfl⟩ := h.1.2
  rw [hm.assoc hx he, hi]
theorem grp_l (hm : Mnd n E) (he : e ∈ E) (hi : mul e e = e) (h : eqH E a e) : mul e a = a := by
  obtain ⟨x, hx, rfl⟩ := h.2.2
  rw [← hm.assoc he he, hi]
theorem grp_mul (hm : Mnd n E) (he : e ∈ E) (hi : mul e e = e) (ha : a ∈ E) (hb : b ∈ E) (h1 : eqH E a e) (h2 : eqH E b e) : eqH E (mul a b) e := by
  have l1 := grp_l hm he hi h1
  have r1 := grp_r hm he hi h1
  have l2 := grp_l hm he hi h2
  have r2 := grp_r hm he hi h2
  have hab := hm.mulE a ha b hb
  refine ⟨⟨?_, ⟨_, hab, by rw [hm.assoc ha hb, r2]⟩⟩, ⟨?_, ⟨_, hab, by rw [← hm.assoc he ha, l1]⟩⟩⟩
  · obtain ⟨x, hx, ex⟩ := h1.1.1
    obtain ⟨y, hy, ey⟩ := h2.1.1
    refine ⟨mul y x, hm.mulE y hy x hx, ?_⟩
    rw [hm.assoc hy hx, ← hm.assoc hx ha, ex, l2, ey]
  · obtain ⟨x, hx, ex⟩ := h1.2.1
    obtain ⟨y, hy, ey⟩ := h2.2.1
    refine ⟨mul y x, hm.mulE y hy x hx, ?_⟩
    rw [hm.assoc ha hb, ← hm.assoc hb hy, ey, ← hm.assoc ha he, r1, ex]
theorem grp_pw (hm : Mnd n E) (he : e ∈ E) (hi : mul e e = e) (ha : a ∈ E) (h : eqH E a e) : ∀ k, eqH E (pw a (k + 1)) e
  | 0 => by rw [pw_one (hm.ok a ha).1]; exact h
  | k + 1 => by
    rw [pw_succ]
    exact grp_mul hm he hi (hm.pwE ha _) ha (grp_pw hm he hi ha h k) h
theorem grp_idem (hm : Mnd n E) (he : e ∈ E) (hi : mul e e = e) (ha : a ∈ E) (h : eqH E a e) (h2 : mul a a = a) : a = e := by
  have r1 := grp_r hm he hi h
  obtain ⟨x, hx, ex⟩ := h.2.1
  have h3 : mul a e = e := by
    conv => lhs; rw [← ex]
    rw [← hm.assoc ha ha, h2, ex]
  exact r1.symm.trans h3
theorem grp_60 (hm : Mnd n E) (he : e ∈ E) (hi : mul e e = e) (ha : a ∈ E) (h : eqH E a e) : pw a 60 = e :=
  grp_idem hm he hi (hm.pwE ha 60) (grp_pw hm he hi ha h 59) (idem_60 (hm.ok a ha).1)
end
theorem gwL_mem {E : List M} {p : Nat → Bool} {a : M} : a ∈ gwL E p E.length ↔ ∃ i, i < E.length ∧ p i = true ∧ gm E i = a := by
  unfold gwL
  rw [List.mem_map]
  constructor
  · rintro ⟨i, hi, rfl⟩
    have := List.mem_filter.1 hi
    exact ⟨i, List.mem_range.1 this.1, this.2, rfl⟩
  · rintro ⟨i, hi, h2, rfl⟩
    exact ⟨i, List.mem_filter.2 ⟨List.mem_range.2 hi, h2⟩, rfl⟩
structure Group (f : M) (G : List M) : Prop where
  vf : Valid f
  vu : Valid (pw f 60)
  pu : (pw f 60).p = f.p
  ok : ∀ a ∈ G, Valid a ∧ a.p = f.p
  mulG : ∀ a ∈ G, ∀ b ∈ G, mul a b ∈ G
  inv : ∀ a ∈ G, ∃ b ∈ G, mul a b = pw f 60
  unit : ∀ a ∈ G, mul a (pw f 60) = a
  len : G.length ≤ 300
theorem group {ms : List M} {f : M} (h : gwC ms f = 0) : Group f (gwR ms f) ∧ irgR ms f = true := by
  have hm0 : monC ms [f] = 0 := by
    refine Classical.byContradiction fun hne => ?_
    rw [gwC_bad hne] at h
    exact hne h
  obtain ⟨E, ps, hE, hx⟩ := monC_el hm0
  have hf : f ∈ E := hx f (by simp)
  have hm := hE.mnd
  have hx := ix_lt hf
  have hg := gm_ix hf
  have hG : gwR ms f = gwL E (hP E (ix E f)) E.length := by
    unfold gwR gwE
    rw [if_pos h, hE.r]
  have hmem : ∀ a, a ∈ gwR ms f ↔ a ∈ E ∧ eqH E a f := by
    intro a
    rw [hG, gwL_mem]
    unfold hP
    constructor
    · rintro ⟨i, hi, h1, rfl⟩
      rw [sameK_2, decide_eq_true_eq, hg] at h1
      exact ⟨gm_mem hi, h1⟩
    · rintro ⟨ha, h1⟩
      refine ⟨ix E a, ix_lt ha, ?_, gm_ix ha⟩
      rw [sameK_2, decide_eq_true_eq, hg, gm_ix ha]
      exact h1
  have hany : (gwE ms f).any isIdem = true := by
    cases hy : (gwE ms f).any isIdem with
    | true => rfl
    | false => rw [gwC_no hm0 hy] at h; cases h
  have hGE : gwE ms f = gwR ms f := by unfold gwR; rw [if_pos h]
  rw [hGE, List.any_eq_true] at hany
  obtain ⟨e, he0, hi0⟩ := hany
  have hi : mul e e = e := by unfold isIdem at hi0; exact of_decide_eq_true hi0
  obtain ⟨he, hef⟩ := (hmem e).1 he0
  have hfe := hef.symm
  have hto : ∀ a, a ∈ gwR ms f → a ∈ E ∧ eqH E a e := fun a ha => by
    obtain ⟨h1, h2⟩ := (hmem a).1 ha
    exact ⟨h1, h2.trans hm h1 hfe⟩
  have hof : ∀ a, a ∈ E → eqH E a e → a ∈ gwR ms f := fun a h1 h2 => (hmem a).2 ⟨h1, h2.trans hm h1 hef⟩
  have hu : pw f 60 = e := grp_60 hm he hi hf hfe
  have of := hm.ok f hf
  refine ⟨⟨of.1, pw_valid of.1 60, pw_p f 60, fun a ha => ?_, fun a ha b hb => ?_, fun a ha => ?_, fun a ha => ?_, gwR_len ms f⟩, ?_⟩
  · have := hm.ok a (hto a ha).1
    exact ⟨this.1, by rw [this.2, of.2]⟩
  · obtain ⟨a1, a2⟩ := hto a ha
    obtain ⟨b1, b2⟩ := hto b hb
    exact hof _ (hm.mulE a a1 b b1) (grp_mul hm he hi a1 b1 a2 b2)
  · obtain ⟨a1, a2⟩ := hto a ha
    refine ⟨pw a 59, hof _ (hm.pwE a1 59) (grp_pw hm he hi a1 a2 58), ?_⟩
    have h3 := pw_add (hm.ok a a1).1 1 59
    rw [pw_one (hm.ok a a1).1] at h3
    rw [h3, hu]
    exact grp_60 hm he hi a1 a2
  · obtain ⟨a1, a2⟩ := hto a ha
    rw [hu]
    exact grp_r hm he hi a2
  · unfold irgR
    rw [hm0, hE.r]
    refine any_iff.2 ⟨ix E e, ix_lt he, ?_⟩
    unfold irgB
    rw [gm_ix he, hi0, Bool.and_true, sameK_3, decide_eq_true_eq, gm_ix he, hg]
    exact hef.1.toJ hm he
theorem under_rank {ms : List M} {g h : M} (hu : iuR ms g h = true) : Valid g ∧ Valid h ∧ rk g ≤ rk h := by
  unfold iuR at hu
  rw [Bool.and_eq_true, decide_eq_true_eq, decide_eq_true_eq] at hu
  obtain ⟨E, ps, hE, hx⟩ := monC_el hu.1
  have hj := hu.2
  rw [hE.r] at hj
  exact ⟨(hE.mnd.ok g (hx g (by simp))).1, (hE.mnd.ok h (hx h (by simp))).1, rk_JJ hE.mnd (hx h (by simp)) hj⟩
theorem depth_bd {ms : List M} (h : monC ms [] = 0) : 1 ≤ dpR ms ∧ dpR ms ≤ gi (ccR ms) 3 ∧ (ccR ms).length = 4 := by
  obtain ⟨E, ps, hE, _⟩ := monC_el h
  have hm := hE.mnd
  have hd := downJ hm
  have hcc : ccR ms = ccL E 4 := by unfold ccR; rw [if_pos h, hE.r]
  have hcg : gi (ccR ms) 3 = cntK E 3 := by rw [hcc, gi_eq (by rw [ccL_len]; omega)]; simp [ccL]
  have hdp : dpR ms = (depM E : Int) := by unfold dpR; rw [if_pos h, hE.r]
  have hpos := hE.pos
  have h1 : depJ E 0 ≤ depM E := le_mxTo hpos
  have h2 : 0 < depJ E 0 := dep_pos hd hpos
  have h3 : depM E ≤ (cntK E 3).toNat := mxTo_le fun j hj => by
    have h4 : depJ E j ≤ muJ E j := dep_le hd _ j hj (Nat.le_refl _)
    have h5 := muJ_le E (i := j)
    omega
  have h6 := cntK_bd E 3
  exact ⟨by omega, by omega, by rw [hcc, ccL_len]⟩
end Go.Proofs.YtkbfocoaobiijaaGreat

namespace Go.Proofs.YtkbfocoaobiijaaGreat
open Go.RowKit
set_option maxRecDepth 100000
set_option linter.unusedSimpArgs false
set_option linter.unusedVariables false
def cl (E : List M) (i : Nat) : Nat := (gi (clsK E 3) i).toNat
def Dz (zs : List Int) (c : Nat) : Nat := (gi zs c).toNat
def owTo (E : List M) (zs : List Int) (i k : Nat) : Nat := 1 + mxTo (fun k => if underB E i k then Dz zs (cl E k) else 0) k
def ow (E : List M) (zs : List Int) (i : Nat) : Nat := owTo E zs i E.length
theorem cl_val {E : List M} {i : Nat} (hi : i < E.length) : gi (clsK E 3) i = (cl E i : Int) ∧ (cl E i : Int) < cntK E 3 := by
  have h := clsK_val E 3 hi
  unfold cl
  omega
theorem cl_same {n : Int} {E : List M} (hm : Mnd n E) {i k : Nat} (hi : i < E.length) (hk : k < E.length) (h : cl E i = cl E k) : depJ E i = depJ E k := by
  refine depJ_same hm hi hk ((clsK_eq hm 3 hi hk).1 ?_)
  rw [(cl_val hi).1, (cl_val hk).1, h]
theorem owTo_step (E : List M) (zs : List Int) (i k : Nat) : owTo E zs i (k + 1) = max (owTo E zs i k) (if underB E i k then Dz zs (cl E k) + 1 else 1) := by
  unfold owTo
  rw [mxTo]
  split <;> omega
theorem owTo_pos (E : List M) (zs : List Int) (i k : Nat) : 0 < owTo E zs i k := by unfold owTo; omega
theorem owTo_le {E : List M} {zs : List Int} {i k b : Nat} (h : ∀ j, j < k → Dz zs (cl E j) ≤ b) : owTo E zs i k ≤ 1 + b := by
  unfold owTo
  have := mxTo_le (g := fun k => if underB E i k then Dz zs (cl E k) else 0) (b := b) (k := k) fun j hj => by
    have := h j hj
    split <;> omega
  omega
theorem Dz_set {zs : List Int} {c : Nat} (hc : c < zs.length) (v : Nat) (x : Nat) : Dz (zs.set c (v : Int)) x = if x = c then v else Dz zs x := by
  unfold Dz
  by_cases e : x = c
  · rw [if_pos e, e, gi_put hc]; rfl
  · rw [if_neg e, gi_put_ne (fun h => e h.symm)]
structure RI2 (E : List M) (cN r q : Nat) (zs : List Int) (best : Nat) (t : Bool) : Prop where
  len : zs.length = cN
  bd : ∀ c, c < cN → 0 ≤ gi zs c ∧ gi zs c ≤ 300
  low : ∀ i, i < E.length → Dz zs (cl E i) ≤ depJ E i
  pr : ∀ i, i < E.length → min (depJ E i) r ≤ Dz zs (cl E i)
  pr1 : ∀ i, i < q → min (depJ E i) (r + 1) ≤ Dz zs (cl E i)
  b1 : best ≤ depM E
  b2 : ∀ j, j < q → Dz zs (cl E j) ≤ best
  fx : t = false → ∀ i, i < q → ow E zs i ≤ Dz zs (cl E i)
section
variable {n : Int} {E : List M} {cN r q : Nat} {zs : List Int} {best : Nat} {t : Bool}
theorem RI2.ow_le (h : RI2 E cN r q zs best t) (hm : Mnd n E) {i : Nat} (hi : i < E.length) : ow E zs i ≤ depJ E i :=
  own_le (downJ hm) (cls := cl E) (D := Dz zs) ⟨h.low⟩ hi
theorem dep_mx {i : Nat} (hi : i < E.length) : depJ E i ≤ depM E := le_mxTo hi
theorem RI2.up (h : RI2 E cN r q zs best t) (hm : Mnd n E) (hq : q < E.length) (hc : cl E q < cN) (h300 : E.length ≤ 300) (hlt : Dz zs (cl E q) < ow E zs q) :
    RI2 E cN r (q + 1) (zs.set (cl E q) (ow E zs q : Int)) (max best (ow E zs q)) true := by
  have hol := h.ow_le hm hq
  have hdl := depJ_le hm hq
  have hset := Dz_set (zs := zs) (c := cl E q) (by rw [h.len]; exact hc) (ow E zs q)
  refine ⟨by rw [List.length_set]; exact h.len, fun c hc' => ?_, fun i hi => ?_, fun i hi => ?_, fun i hi => ?_, ?_, fun j hj => ?_, fun e => by cases e⟩
  · by_cases e : cl E q = c
    · subst e
      rw [gi_put (by rw [h.len]; exact hc)]
      omega
    · rw [gi_put_ne e]; exact h.bd c hc'
  · rw [hset]
    split
    · rename_i e
      rw [cl_same hm hi hq e]; exact hol
    · exact h.low i hi
  · have := h.pr i hi
    rw [hset]
    split
    · rename_i e
      rw [e] at this; omega
    · exact this
  · rw [hset]
    by_cases e : i = q
    · subst e
      rw [if_pos rfl]
      exact own_ge (downJ hm) (cls := cl E) (D := Dz zs) hq h.pr
    · have := h.pr1 i (by omega)
      split
      · rename_i e2
        rw [e2] at this; omega
      · exact this
  · have := h.b1
    have := dep_mx hq
    omega
  · rw [hset]
    split
    · omega
    · rename_i e
      have : j ≠ q := fun e2 => e (by rw [e2])
      have := h.b2 j (by omega)
      omega
theorem RI2.stay (h : RI2 E cN r q zs best t) (hm : Mnd n E) (hq : q < E.length) (hge : ow E zs q ≤ Dz zs (cl E q)) : RI2 E cN r (q + 1) zs (max best (Dz zs (cl E q))) t := by
  refine ⟨h.len, h.bd, h.low, h.pr, fun i hi => ?_, ?_, fun j hj => ?_, fun e i hi => ?_⟩
  · by_cases e : i = q
    · subst e
      have := own_ge (downJ hm) (cls := cl E) (D := Dz zs) hq h.pr
      exact Nat.le_trans this hge
    · exact h.pr1 i (by omega)
  · have := h.b1
    have := dep_mx hq
    have := h.low q hq
    omega
  · by_cases e : j = q
    · subst e; omega
    · have := h.b2 j (by omega)
      omega
  · by_cases e2 : i = q
    · subst e2; exact hge
    · exact h.fx e i (by omega)
theorem best_eq (hb : best ≤ depM E) (h : ∀ j, j < E.length → depJ E j ≤ best) : best = depM E := by
  have := mxTo_le (g := depJ E) (b := best) (k := E.length) h
  unfold depM at hb ⊢
  omega
theorem RI2.done (h : RI2 E cN r E.length zs best false) (hm : Mnd n E) : best = depM E := by
  have hf := fix_eq (downJ hm) (cls := cl E) (D := Dz zs) ⟨h.low⟩ (fun i hi => h.fx rfl i hi)
  refine best_eq h.b1 fun j hj => ?_
  have h1 : Dz zs (cl E j) = depJ E j := hf (muJ E j) j hj (Nat.le_refl _)
  rw [← h1]
  exact h.b2 j hj
theorem RI2.next (h : RI2 E cN r E.length zs best t) : RI2 E cN (r + 1) 0 zs best false ∧ ∀ j, j < E.length → Dz zs (cl E j) ≤ best :=
  ⟨⟨h.len, h.bd, h.low, h.pr1, fun i hi => by omega, h.b1, fun j hj => by omega, fun _ i hi => by omega⟩, h.b2⟩
theorem RI2.last (h : RI2 E cN r 0 zs best t) (hm : Mnd n E) (hr : cntK E 3 ≤ r) (hb : ∀ j, j < E.length → Dz zs (cl E j) ≤ best) : best = depM E := by
  refine best_eq h.b1 fun j hj => ?_
  have h1 : depJ E j ≤ muJ E j := dep_le (downJ hm) _ j hj (Nat.le_refl _)
  have h2 := muJ_le E (i := j)
  have h3 := h.pr j hj
  have h4 := hb j hj
  omega
theorem RI2.start (hE : ∀ i, i < E.length → cl E i < cN) : RI2 E cN 0 0 (List.replicate cN 0) 0 false := by
  have h0 : ∀ c, gi (List.replicate cN 0) c = 0 := fun c => by
    unfold gi
    rw [List.getD_eq_getElem?_getD, List.getElem?_replicate]
    split <;> rfl
  have hz : ∀ c, Dz (List.replicate cN 0) c = 0 := fun c => by unfold Dz; rw [h0]; rfl
  exact ⟨List.length_replicate .., fun c _ => by rw [h0]; omega, fun i _ => by rw [hz]; omega, fun i _ => by omega, fun i hi => by omega, by omega, fun j hj => by omega, fun _ i hi => by omega⟩
end
theorem cls_bd' (E : List M) (kind : Int) {N : Nat} (hn : E.length = N) (hN : N ≤ 300) : ∀ j, j < N → 0 ≤ gi (clsK E kind) j ∧ gi (clsK E kind) j ≤ 300 := by
  subst hn
  intro j hj
  have h1 := clsK_val E kind hj
  have h2 := cntK_bd E kind
  omega
theorem cls_mx' (E : List M) (kind : Int) {N : Nat} (hn : E.length = N) : mxT (clsK E kind) N + 1 = cntK E kind := by
  subst hn
  exact mxT_nm _ _
set_option maxHeartbeats 4000000 in
theorem SpecDP_any (A : Option Addr) (n c : Nat) (ms : List M) (w : World) (hx : RdM w w.heap.size A ms) (hn : ms.length = n) (hb : n < 1073741824) :
    Calls Tryz.prog 63 #[.slice A n c] w fun e w' => e = .returned (.tuple #[I (dpR ms), I (monC ms [])]) ∧ Below w.heap.size w w' := by
  obtain ⟨i0, hi, hz0, hz1, hz2⟩ := info_parts infoI
  have Hx := Lib.hid hx
  have Hn := Lib.hid hn
  clear hx hn
  by_cases hm : monC ms [] = 0
  · obtain ⟨E, ps, hE, _⟩ := monC_el hm
    have hR : dpR ms = (depM E : Int) := by unfold dpR; rw [if_pos hm, hE.r]
    have hG : gR ms [] = E := by unfold gR; rw [if_pos hm, hE.r]
    have hlen := hE.len
    have hpos := hE.pos
    have hn6 := hE.n6
    obtain ⟨N, hN⟩ : ∃ N, E.length = N := ⟨_, rfl⟩
    rw [hN] at hlen hpos
    have hcb := cntK_bd E 3
    rw [hN] at hcb
    obtain ⟨C, hC⟩ : ∃ C : Nat, (C : Int) = cntK E 3 := ⟨(cntK E 3).toNat, by omega⟩
    have hC3 : C ≤ 300 := by omega
    have HcC : Hid (∀ i, i < N → cl E i < C) := fun i hi => by have := (cl_val (E := E) (i := i) (by rw [hN]; exact hi)).2; omega
    have HR := Lib.hid hR
    have HG := Lib.hid hG
    have HN := Lib.hid hN
    have HE := Lib.hid hE
    have Hm := Lib.hid hm
    have HC := Lib.hid hC
    have hn6' : n ≤ 6 := by rw [← Hn.out]; exact hn6
    have HDM : Hid (depM E ≤ 300) := mxTo_le fun j hj => by have := depJ_le hE.mnd hj; omega
    clear hE hR hG hN hm hn6 hcb hC
    go_enter Tryz.func63, Tryz.ntmps63
    go_wp2_with fail
    refine (l03Given_any A none n c 0 0 ms [] w Hx.out Rd.nil_ Hn.out rfl hb (by decide)).mono ?_
    rintro e w1 ⟨A', c', v, rfl, hr, hv, hb1⟩
    rw [HG.out] at hr ⊢
    rw [Hm.out, HN.out]
    obtain ⟨Av, cv, hvv, _⟩ := hv.form
    subst hvv
    have Hr := Lib.hid hr
    have Hb1 := Lib.hid hb1
    have hz1' := hb1.size
    clear hr hv hb1
    go_wp2_with fail
    refine (l03Table_any A' N c' E A n c ms true true w1 Hr.out HN.out (Rd.more (Rd.below Hx.out Hb1.out) hz1') Hn.out hlen hn6' HE.out.mnd HE.out.mem HE.out.G).mono ?_
    rintro e w2 ⟨v, vs, rfl, ho, hl, hT, hb2⟩
    obtain ⟨At, ct, hv, _⟩ := ho.form
    rw [hl] at hv
    subst hv
    have Ho := Lib.hid ho
    have Hl := Lib.hid hl
    have HT := Lib.hid hT
    have Hb2 := Lib.hid (Hb1.out.trans (hb2.mono hz1'))
    have hz2' := Hb2.out.size
    clear ho hl hT hb2
    go_wp2_with fail
    refine (l03Classes_any At N ct vs _ w1.heap.size w2 Ho.out Hl.out HT.out hlen).mono ?_
    rintro e w3 ⟨v2, rfl, ho3, hb3⟩
    have hcls := both_cls (n := (gm ms 0).p) HN.out (l := true) (r := true) (kind := 3) (fun i k => bothB_J E i k)
    rw [hcls] at ho3
    obtain ⟨A3, c3, hv3, _⟩ := ho3.form
    rw [clsK_length, HN.out] at hv3
    subst hv3
    have Hr3 := Lib.hid ho3.rdA
    have HR2 := Lib.hid (Rd.more (Rd.below Ho.out.rdA hb3) hb3.size)
    have HT3 : Hid (∀ j, j < N → ∃ g, gv vs j = .slice (some ⟨g, 0, none⟩) N N ∧ Bls w3 g N (fun y => relB E true true j y)) := fun j hj => by
      obtain ⟨g, e1, e2, _, _⟩ := HT.out j (by rw [Hl.out]; exact hj)
      exact ⟨g, e1, e2.below hb3 e2.lt⟩
    have Hb3 := Lib.hid (Hb2.out.trans (hb3.mono hz2'))
    have hz3 := Hb3.out.size
    clear ho3 hb3 Ho HT hcls
    go_wp2_with fail
    refine (l03Number_any A3 N c3 (clsK E 3) w3 Hr3.out (by rw [clsK_length, HN.out]) hlen (cls_bd' E 3 HN.out hlen)).mono ?_
    rintro e w4 ⟨rfl, hb4⟩
    rw [cls_mx' E 3 HN.out, ← HC.out]
    have Hr4 := Lib.hid (Rd.more (Rd.below Hr3.out hb4) hb4.size)
    have HR4 := Lib.hid (Rd.more (Rd.below HR2.out hb4) hb4.size)
    have HT4 : Hid (∀ j, j < N → ∃ g, gv vs j = .slice (some ⟨g, 0, none⟩) N N ∧ Bls w4 g N (fun y => relB E true true j y)) := fun j hj => by
      obtain ⟨g, e1, e2⟩ := HT3.out j hj
      exact ⟨g, e1, e2.below hb4 e2.lt⟩
    have Hb4 := Lib.hid (Hb3.out.trans (hb4.mono hz3))
    have hz4 := Hb4.out.size
    clear hb4 Hr3 HR2 HT3
    go_wp2_with (at_make; refine wpList_make_full _ rfl _ _ _ rfl w4.heap.size 2 i0 (.int .i64 0) 1 Tryz.underlying39 hi hz0 hz1 .i64 .i64 _ _ C rfl rfl rfl rfl (by rw [hz2]; omega) (by unfold maxLen; omega) (Nat.le_refl _) ?_; intro w5 hown hgr; have Ho5 := Lib.hid (madeI hown); have Hb5 := Lib.hid ((Below.refl w4.heap.size w4).grown hgr (Nat.le_refl _) (fun k hk => by cases hk)); clear hown hgr)
    clear hi hz0 hz1 hz2
    obtain ⟨gD, hgD⟩ : ∃ gD, gD = w4.heap.size := ⟨_, rfl⟩
    rw [← hgD] at Ho5 ⊢
    have Hgd := Lib.hid hgD
    clear hgD
    go_loopw [11, 12] (fun best t wr => ∃ (r : Nat) (zs : List Int) (bs : Nat), t = .int .i64 r ∧ r ≤ C ∧ best = I bs ∧ Below w4.heap.size w4 wr ∧ OwI 2 wr w4.heap.size (.slice (some ⟨gD, 0, none⟩) C C) zs ∧ RI2 E C r 0 zs bs false ∧ (0 < r → ∀ j, j < E.length → Dz zs (cl E j) ≤ bs)) (fun _ t _ => C - (intOf t).toNat)
    case atStart => exact ⟨0, List.replicate C 0, 0, rfl, by omega, rfl, Hb5.out, by rw [← Hgd.out]; exact Ho5.out, RI2.start (fun i hi => HcC.out i (by rw [← HN.out]; exact hi)), fun h => by omega⟩
    case round =>
      clear Ho5 Hb5
      obtain ⟨r, zs, bs, rfl, hrC, rfl, hbr, hor, hI, hbb⟩ := hrel
      have Hbr := Lib.hid hbr
      have Hor := Lib.hid hor
      have HI := Lib.hid hI
      have Hbb := Lib.hid hbb
      have hszr := hbr.size
      clear hbr hor hI hbb
      by_cases hr : r < C
      · have hrz : (r : Int) < (C : Int) := by omega
        go_wp2_with fail
        go_loopw [11, 13, 14] (fun best tu t wq => ∃ (q : Nat) (zs : List Int) (bs : Nat) (u : Bool), t = .int .i64 q ∧ q ≤ N ∧ best = I bs ∧ tu = .bool u ∧ Below w4.heap.size w4 wq ∧ OwI 2 wq w4.heap.size (.slice (some ⟨gD, 0, none⟩) C C) zs ∧ RI2 E C r q zs bs u) (fun _ _ t _ => N - (intOf t).toNat)
        case atStart => exact ⟨0, zs, bs, false, rfl, by omega, rfl, rfl, Hbr.out, Hor.out, HI.out⟩
        case round =>
          clear HI Hor Hbr Hbb
          obtain ⟨q, zs, bs, u, rfl, hq, rfl, rfl, hbr, hor, hI⟩ := hrel
          have Hbr := Lib.hid hbr
          have Hor := Lib.hid hor
          have HI := Lib.hid hI
          have hszr := hbr.size
          clear hbr hor hI
          by_cases hqN : q < N
          · have hqz : (q : Int) < (N : Int) := by omega
            obtain ⟨bt, ot, rfl, hbt, _⟩ := RdV.at_ HR4.out (k := q) (by rw [Hl.out]; exact hqN)
            obtain ⟨bc, oc, rfl, hbc, _⟩ := RdI.at_ Hr4.out (k := q) (by rw [clsK_length, HN.out]; exact hqN)
            obtain ⟨gq, eq1, eq2⟩ := HT4.out q hqN
            have Eq1 := Lib.hid eq1
            have Eq2 := Lib.hid eq2
            clear eq1 eq2
            go_wp2_with fail
            go_loopw [15, 16] (fun own k wq => ∃ m : Nat, k = .int .i64 m ∧ m ≤ N ∧ own = I (owTo E zs q m) ∧ Below wr.heap.size wr wq) (fun _ k _ => N - (intOf k).toNat)
            case atStart => exact ⟨0, rfl, by omega, rfl, Below.refl _ _⟩
            case round =>
              obtain ⟨m, rfl, hmN, rfl, hbq⟩ := hrel
              have Hb4w := Lib.hid (Hbr.out.trans (hbq.mono hszr))
              have Hoq := Lib.hid (Hor.out.below hbq (Nat.le_refl _))
              have Hbq := Lib.hid hbq
              have hsq := hbq.size
              clear hbq
              have hoB := owTo_le (E := E) (zs := zs) (i := q) (k := m) (b := 300) fun j hj => by
                have h1 := HI.out.low j (by rw [HN.out]; omega)
                have h2 := depJ_le HE.out.mnd (i := j) (by rw [HN.out]; omega)
                rw [HN.out] at h2
                omega
              obtain ⟨cq, hcq⟩ : ∃ cq, cq = cl E q := ⟨_, rfl⟩
              have hcqC : cq < C := by rw [hcq]; exact HcC.out q hqN
              have Hcq := Lib.hid hcq
              have hcqz : (cq : Int) < (C : Int) := by omega
              clear hcq
              by_cases hm2 : m < N
              · have hmz : (m : Int) < (N : Int) := by omega
                obtain ⟨cm, hcm⟩ : ∃ cm, cm = cl E m := ⟨_, rfl⟩
                have hcmC : cm < C := by rw [hcm]; exact HcC.out m hm2
                have hcmz : (cm : Int) < (C : Int) := by omega
                obtain ⟨a, ha⟩ : ∃ a, a = gi (clsK E 3) m := ⟨_, rfl⟩
                obtain ⟨b, hb9⟩ : ∃ b, b = gi (clsK E 3) q := ⟨_, rfl⟩
                have Hac : Hid (a = (cm : Int)) := by show _ = _; rw [ha, hcm]; exact (cl_val (by rw [HN.out]; exact hm2)).1
                have HF : Hid (∀ w', Below wr.heap.size wr w' → w'.cell? ⟨bt, ot + q, none⟩ = some (.slice (some ⟨gq, 0, none⟩) N N) ∧ w'.cell? ⟨gq, m, none⟩ = some (.bool (relB E true true q m)) ∧ w'.cell? ⟨bc, oc + m, none⟩ = some (I a) ∧ w'.cell? ⟨bc, oc + q, none⟩ = some (I b)) := fun w' hS => by
                  have hB := Hb4w.out.trans (hS.mono Hb4w.out.size)
                  rw [ha, hb9, ← Eq1.out]
                  exact ⟨RdV.at0 (Rd.below HR4.out hB) (by rw [Hl.out]; exact hqN), (Eq2.out.below hB Eq2.out.lt).cell hm2, RdI.at0 (Rd.below Hr4.out hB) (by rw [clsK_length, HN.out]; exact hm2), RdI.at0 (Rd.below Hr4.out hB) (by rw [clsK_length, HN.out]; exact hqN)⟩
                have Hun : Hid ((relB E true true q m && !decide (a = b)) = underB E q m) := by show _ = _; rw [ha, hb9]; exact under_cls HE.out.mnd (by rw [HN.out]; exact hqN) (by rw [HN.out]; exact hm2)
                have Hst := Lib.hid (owTo_step E zs q m)
                have Hop := Lib.hid (owTo_pos E zs q m)
                have Hcm := Lib.hid hcm
                clear ha hb9 hcm
                cases h1 : relB E true true q m
                · have HO : Hid (owTo E zs q (m + 1) = owTo E zs q m) := by
                    have := Hop.out
                    show _ = _
                    rw [Hst.out, ← Hun.out, h1, Bool.false_and, if_neg (by decide)]
                    omega
                  go_wp2_with fail
                  refine wp_region_same [] rfl (by kernel_rfl) (by kernel_rfl) (by kernel_rfl) (fun w' => Below wr.heap.size wr w') _
                    [.slice (some ⟨bt, ot, none⟩) N ct, I q, .pointer (some ⟨bt, ot + q, none⟩), .slice (some ⟨gq, 0, none⟩) N N, I m, .pointer (some ⟨gq, m, none⟩), .bool false, .bool false, undef, undef, undef, undef, undef, undef, undef, undef, undef, .bool false]
                    (by simp only [putAll, List.setIfInBounds_toArray, List.set_cons_succ, List.set_cons_zero]; rfl) (Below.refl _ _).drew ?hop ?hQ
                  case hop =>
                    refine FixBL.toL (fun w' w'' hS hb => hS.trans (hb.mono hS.size)) _ _ ?_
                    refine ⟨.inr ?_, .inr ?_, .inr ?_, .inr ?_, .inr ?_, .inr ?_, .inr ?_, .inr ?_, .inr ?_, .inr ?_, .inr ?_, .inr ?_, .inr ?_, .inr ?_, .inr ?_, .inr ?_, .inr ?_, .inr ?_, trivial⟩
                    · (with_reducible refine FixB.of ?_ ?_; rfl; intro w' hS; obtain ⟨s0, s1, s2, s3⟩ := HF.out _ hS; rw [h1] at s1; clear hS; unfold Oper.wp; go_simp; first | done | exact Below.refl _ _)
                    · (with_reducible refine FixB.of ?_ ?_; rfl; intro w' hS; obtain ⟨s0, s1, s2, s3⟩ := HF.out _ hS; rw [h1] at s1; clear hS; unfold Oper.wp; go_simp; first | done | exact Below.refl _ _)
                    · (with_reducible refine FixB.of ?_ ?_; rfl; intro w' hS; obtain ⟨s0, s1, s2, s3⟩ := HF.out _ hS; rw [h1] at s1; clear hS; unfold Oper.wp; go_simp; first | done | exact Below.refl _ _)
                    · (with_reducible refine FixB.of ?_ ?_; rfl; intro w' hS; obtain ⟨s0, s1, s2, s3⟩ := HF.out _ hS; rw [h1] at s1; clear hS; unfold Oper.wp; go_simp; first | done | exact Below.refl _ _)
                    · (with_reducible refine FixB.of ?_ ?_; rfl; intro w' hS; obtain ⟨s0, s1, s2, s3⟩ := HF.out _ hS; rw [h1] at s1; clear hS; unfold Oper.wp; go_simp; first | done | exact Below.refl _ _)
                    · (with_reducible refine FixB.of ?_ ?_; rfl; intro w' hS; obtain ⟨s0, s1, s2, s3⟩ := HF.out _ hS; rw [h1] at s1; clear hS; unfold Oper.wp; go_simp; first | done | exact Below.refl _ _)
                    · (with_reducible refine FixB.of ?_ ?_; rfl; intro w' hS; obtain ⟨s0, s1, s2, s3⟩ := HF.out _ hS; rw [h1] at s1; clear hS; unfold Oper.wp; go_simp; first | done | exact Below.refl _ _)
                    · (with_reducible refine FixB.of ?_ ?_; rfl; intro w' hS; obtain ⟨s0, s1, s2, s3⟩ := HF.out _ hS; rw [h1] at s1; clear hS; unfold Oper.wp; go_simp; first | done | exact Below.refl _ _)
                    · exact FixB.off (by first | rfl | kernel_rfl | (simp [Region.wanted, yielded]; done)) rfl
                    · exact FixB.off (by first | rfl | kernel_rfl | (simp [Region.wanted, yielded]; done)) rfl
                    · exact FixB.off (by first | rfl | kernel_rfl | (simp [Region.wanted, yielded]; done)) rfl
                    · exact FixB.off (by first | rfl | kernel_rfl | (simp [Region.wanted, yielded]; done)) rfl
                    · exact FixB.off (by first | rfl | kernel_rfl | (simp [Region.wanted, yielded]; done)) rfl
                    · exact FixB.off (by first | rfl | kernel_rfl | (simp [Region.wanted, yielded]; done)) rfl
                    · exact FixB.off (by first | rfl | kernel_rfl | (simp [Region.wanted, yielded]; done)) rfl
                    · exact FixB.off (by first | rfl | kernel_rfl | (simp [Region.wanted, yielded]; done)) rfl
                    · exact FixB.off (by first | rfl | kernel_rfl | (simp [Region.wanted, yielded]; done)) rfl
                    · (with_reducible refine FixB.of ?_ ?_; rfl; intro w' hS; obtain ⟨s0, s1, s2, s3⟩ := HF.out _ hS; rw [h1] at s1; clear hS; unfold Oper.wp; go_simp; first | done | exact Below.refl _ _)
                  case hQ =>
                  intro wc hS _
                  have HB2 := Lib.hid hS
                  clear hS
                  have Hbn := Lib.hid (Hbq.out.trans (HB2.out.mono hsq))
                  clear h1
                  go_wp2_with fail
                  refine ⟨⟨m + 1, by go_num, by omega, by rw [HO.out], Hbn.out⟩, by simp [intOf]; omega⟩
                · by_cases h2 : a = b
                  · have HO : Hid (owTo E zs q (m + 1) = owTo E zs q m) := by
                      have := Hop.out
                      show _ = _
                      rw [Hst.out, ← Hun.out, h1, decide_eq_true h2, Bool.true_and, if_neg (by decide)]
                      omega
                    have hab : (a != b) = false := by simpa using h2
                    clear h2
                    go_wp2_with fail
                    refine wp_region_same [] rfl (by kernel_rfl) (by kernel_rfl) (by kernel_rfl) (fun w' => Below wr.heap.size wr w') _
                      [.slice (some ⟨bt, ot, none⟩) N ct, I q, .pointer (some ⟨bt, ot + q, none⟩), .slice (some ⟨gq, 0, none⟩) N N, I m, .pointer (some ⟨gq, m, none⟩), .bool true, .bool true, .slice (some ⟨bc, oc, none⟩) N c3, I m, .pointer (some ⟨bc, oc + m, none⟩), I a, .slice (some ⟨bc, oc, none⟩) N c3, I q, .pointer (some ⟨bc, oc + q, none⟩), I b, .bool false, .bool false]
                      (by simp only [putAll, List.setIfInBounds_toArray, List.set_cons_succ, List.set_cons_zero]; rfl) (Below.refl _ _).drew ?hop ?hQ
                    case hop =>
                      refine FixBL.toL (fun w' w'' hS hb => hS.trans (hb.mono hS.size)) _ _ ?_
                      refine ⟨.inr ?_, .inr ?_, .inr ?_, .inr ?_, .inr ?_, .inr ?_, .inr ?_, .inr ?_, .inr ?_, .inr ?_, .inr ?_, .inr ?_, .inr ?_, .inr ?_, .inr ?_, .inr ?_, .inr ?_, .inr ?_, trivial⟩
                      · (with_reducible refine FixB.of ?_ ?_; rfl; intro w' hS; obtain ⟨s0, s1, s2, s3⟩ := HF.out _ hS; rw [h1] at s1; clear hS; unfold Oper.wp; go_simp; first | done | exact Below.refl _ _)
                      · (with_reducible refine FixB.of ?_ ?_; rfl; intro w' hS; obtain ⟨s0, s1, s2, s3⟩ := HF.out _ hS; rw [h1] at s1; clear hS; unfold Oper.wp; go_simp; first | done | exact Below.refl _ _)
                      · (with_reducible refine FixB.of ?_ ?_; rfl; intro w' hS; obtain ⟨s0, s1, s2, s3⟩ := HF.out _ hS; rw [h1] at s1; clear hS; unfold Oper.wp; go_simp; first | done | exact Below.refl _ _)
                      · (with_reducible refine FixB.of ?_ ?_; rfl; intro w' hS; obtain ⟨s0, s1, s2, s3⟩ := HF.out _ hS; rw [h1] at s1; clear hS; unfold Oper.wp; go_simp; first | done | exact Below.refl _ _)
                      · (with_reducible refine FixB.of ?_ ?_; rfl; intro w' hS; obtain ⟨s0, s1, s2, s3⟩ := HF.out _ hS; rw [h1] at s1; clear hS; unfold Oper.wp; go_simp; first | done | exact Below.refl _ _)
                      · (with_reducible refine FixB.of ?_ ?_; rfl; intro w' hS; obtain ⟨s0, s1, s2, s3⟩ := HF.out _ hS; rw [h1] at s1; clear hS; unfold Oper.wp; go_simp; first | done | exact Below.refl _ _)
                      · (with_reducible refine FixB.of ?_ ?_; rfl; intro w' hS; obtain ⟨s0, s1, s2, s3⟩ := HF.out _ hS; rw [h1] at s1; clear hS; unfold Oper.wp; go_simp; first | done | exact Below.refl _ _)
                      · (with_reducible refine FixB.of ?_ ?_; rfl; intro w' hS; obtain ⟨s0, s1, s2, s3⟩ := HF.out _ hS; rw [h1] at s1; clear hS; unfold Oper.wp; go_simp; first | done | exact Below.refl _ _)
                      · (refine FixB.on (by first | rfl | kernel_rfl | (simp [Region.wanted, yielded]; done)) ?_; intro w' hS; obtain ⟨s0, s1, s2, s3⟩ := HF.out _ hS; rw [h1] at s1; clear hS; unfold Oper.wp; go_simp; first | done | exact Below.refl _ _)
                      · (refine FixB.on (by first | rfl | kernel_rfl | (simp [Region.wanted, yielded]; done)) ?_; intro w' hS; obtain ⟨s0, s1, s2, s3⟩ := HF.out _ hS; rw [h1] at s1; clear hS; unfold Oper.wp; go_simp; first | done | exact Below.refl _ _)
                      · (refine FixB.on (by first | rfl | kernel_rfl | (simp [Region.wanted, yielded]; done)) ?_; intro w' hS; obtain ⟨s0, s1, s2, s3⟩ := HF.out _ hS; rw [h1] at s1; clear hS; unfold Oper.wp; go_simp; first | done | exact Below.refl _ _)
                      · (refine FixB.on (by first | rfl | kernel_rfl | (simp [Region.wanted, yielded]; done)) ?_; intro w' hS; obtain ⟨s0, s1, s2, s3⟩ := HF.out _ hS; rw [h1] at s1; clear hS; unfold Oper.wp; go_simp; first | done | exact Below.refl _ _)
                      · (refine FixB.on (by first | rfl | kernel_rfl | (simp [Region.wanted, yielded]; done)) ?_; intro w' hS; obtain ⟨s0, s1, s2, s3⟩ := HF.out _ hS; rw [h1] at s1; clear hS; unfold Oper.wp; go_simp; first | done | exact Below.refl _ _)
                      · (refine FixB.on (by first | rfl | kernel_rfl | (simp [Region.wanted, yielded]; done)) ?_; intro w' hS; obtain ⟨s0, s1, s2, s3⟩ := HF.out _ hS; rw [h1] at s1; clear hS; unfold Oper.wp; go_simp; first | done | exact Below.refl _ _)
                      · (refine FixB.on (by first | rfl | kernel_rfl | (simp [Region.wanted, yielded]; done)) ?_; intro w' hS; obtain ⟨s0, s1, s2, s3⟩ := HF.out _ hS; rw [h1] at s1; clear hS; unfold Oper.wp; go_simp; first | done | exact Below.refl _ _)
                      · (refine FixB.on (by first | rfl | kernel_rfl | (simp [Region.wanted, yielded]; done)) ?_; intro w' hS; obtain ⟨s0, s1, s2, s3⟩ := HF.out _ hS; rw [h1] at s1; clear hS; unfold Oper.wp; go_simp; first | done | exact Below.refl _ _)
                      · (refine FixB.on (by first | rfl | kernel_rfl | (simp [Region.wanted, yielded]; done)) ?_; intro w' hS; obtain ⟨s0, s1, s2, s3⟩ := HF.out _ hS; rw [h1] at s1; clear hS; unfold Oper.wp; go_simp; first | done | exact Below.refl _ _)
                      · (with_reducible refine FixB.of ?_ ?_; rfl; intro w' hS; obtain ⟨s0, s1, s2, s3⟩ := HF.out _ hS; rw [h1] at s1; clear hS; unfold Oper.wp; go_simp; first | done | exact Below.refl _ _)
                    case hQ =>
                    intro wc hS _
                    have HB2 := Lib.hid hS
                    clear hS
                    have Hbn := Lib.hid (Hbq.out.trans (HB2.out.mono hsq))
                    clear h1
                    go_wp2_with fail
                    refine ⟨⟨m + 1, by go_num, by omega, by rw [HO.out], Hbn.out⟩, by simp [intOf]; omega⟩
                  · have hab : (a != b) = true := by simpa using h2
                    obtain ⟨dz, hdz⟩ : ∃ dz, dz = Dz zs cm := ⟨_, rfl⟩
                    have HO : Hid (owTo E zs q (m + 1) = max (owTo E zs q m) (dz + 1)) := by
                      show _ = _
                      rw [Hst.out, ← Hun.out, h1, decide_eq_false h2, Bool.true_and, if_pos (by decide), ← Hcm.out, hdz]
                    have hbd := HI.out.bd cm hcmC
                    have Hgz : Hid (gi zs cm = (dz : Int)) := by show _ = _; rw [hdz]; unfold Dz; omega
                    have hdz3 : dz ≤ 300 := by rw [Hgz.out] at hbd; omega
                    clear h2 hbd hdz
                    go_wp2_with fail
                    refine wp_region_same [] rfl (by kernel_rfl) (by kernel_rfl) (by kernel_rfl) (fun w' => Below wr.heap.size wr w') _
                      [.slice (some ⟨bt, ot, none⟩) N ct, I q, .pointer (some ⟨bt, ot + q, none⟩), .slice (some ⟨gq, 0, none⟩) N N, I m, .pointer (some ⟨gq, m, none⟩), .bool true, .bool true, .slice (some ⟨bc, oc, none⟩) N c3, I m, .pointer (some ⟨bc, oc + m, none⟩), I a, .slice (some ⟨bc, oc, none⟩) N c3, I q, .pointer (some ⟨bc, oc + q, none⟩), I b, .bool true, .bool true]
                      (by simp only [putAll, List.setIfInBounds_toArray, List.set_cons_succ, List.set_cons_zero]; rfl) (Below.refl _ _).drew ?hop ?hQ
                    case hop =>
                      refine FixBL.toL (fun w' w'' hS hb => hS.trans (hb.mono hS.size)) _ _ ?_
                      refine ⟨.inr ?_, .inr ?_, .inr ?_, .inr ?_, .inr ?_, .inr ?_, .inr ?_, .inr ?_, .inr ?_, .inr ?_, .inr ?_, .inr ?_, .inr ?_, .inr ?_, .inr ?_, .inr ?_, .inr ?_, .inr ?_, trivial⟩
                      · (with_reducible refine FixB.of ?_ ?_; rfl; intro w' hS; obtain ⟨s0, s1, s2, s3⟩ := HF.out _ hS; rw [h1] at s1; clear hS; unfold Oper.wp; go_simp; first | done | exact Below.refl _ _)
                      · (with_reducible refine FixB.of ?_ ?_; rfl; intro w' hS; obtain ⟨s0, s1, s2, s3⟩ := HF.out _ hS; rw [h1] at s1; clear hS; unfold Oper.wp; go_simp; first | done | exact Below.refl _ _)
                      · (with_reducible refine FixB.of ?_ ?_; rfl; intro w' hS; obtain ⟨s0, s1, s2, s3⟩ := HF.out _ hS; rw [h1] at s1; clear hS; unfold Oper.wp; go_simp; first | done | exact Below.refl _ _)
                      · (with_reducible refine FixB.of ?_ ?_; rfl; intro w' hS; obtain ⟨s0, s1, s2, s3⟩ := HF.out _ hS; rw [h1] at s1; clear hS; unfold Oper.wp; go_simp; first | done | exact Below.refl _ _)
                      · (with_reducible refine FixB.of ?_ ?_; rfl; intro w' hS; obtain ⟨s0, s1, s2, s3⟩ := HF.out _ hS; rw [h1] at s1; clear hS; unfold Oper.wp; go_simp; first | done | exact Below.refl _ _)
                      · (with_reducible refine FixB.of ?_ ?_; rfl; intro w' hS; obtain ⟨s0, s1, s2, s3⟩ := HF.out _ hS; rw [h1] at s1; clear hS; unfold Oper.wp; go_simp; first | done | exact Below.refl _ _)
                      · (with_reducible refine FixB.of ?_ ?_; rfl; intro w' hS; obtain ⟨s0, s1, s2, s3⟩ := HF.out _ hS; rw [h1] at s1; clear hS; unfold Oper.wp; go_simp; first | done | exact Below.refl _ _)
                      · (with_reducible refine FixB.of ?_ ?_; rfl; intro w' hS; obtain ⟨s0, s1, s2, s3⟩ := HF.out _ hS; rw [h1] at s1; clear hS; unfold Oper.wp; go_simp; first | done | exact Below.refl _ _)
                      · (refine FixB.on (by first | rfl | kernel_rfl | (simp [Region.wanted, yielded]; done)) ?_; intro w' hS; obtain ⟨s0, s1, s2, s3⟩ := HF.out _ hS; rw [h1] at s1; clear hS; unfold Oper.wp; go_simp; first | done | exact Below.refl _ _)
                      · (refine FixB.on (by first | rfl | kernel_rfl | (simp [Region.wanted, yielded]; done)) ?_; intro w' hS; obtain ⟨s0, s1, s2, s3⟩ := HF.out _ hS; rw [h1] at s1; clear hS; unfold Oper.wp; go_simp; first | done | exact Below.refl _ _)
                      · (refine FixB.on (by first | rfl | kernel_rfl | (simp [Region.wanted, yielded]; done)) ?_; intro w' hS; obtain ⟨s0, s1, s2, s3⟩ := HF.out _ hS; rw [h1] at s1; clear hS; unfold Oper.wp; go_simp; first | done | exact Below.refl _ _)
                      · (refine FixB.on (by first | rfl | kernel_rfl | (simp [Region.wanted, yielded]; done)) ?_; intro w' hS; obtain ⟨s0, s1, s2, s3⟩ := HF.out _ hS; rw [h1] at s1; clear hS; unfold Oper.wp; go_simp; first | done | exact Below.refl _ _)
                      · (refine FixB.on (by first | rfl | kernel_rfl | (simp [Region.wanted, yielded]; done)) ?_; intro w' hS; obtain ⟨s0, s1, s2, s3⟩ := HF.out _ hS; rw [h1] at s1; clear hS; unfold Oper.wp; go_simp; first | done | exact Below.refl _ _)
                      · (refine FixB.on (by first | rfl | kernel_rfl | (simp [Region.wanted, yielded]; done)) ?_; intro w' hS; obtain ⟨s0, s1, s2, s3⟩ := HF.out _ hS; rw [h1] at s1; clear hS; unfold Oper.wp; go_simp; first | done | exact Below.refl _ _)
                      · (refine FixB.on (by first | rfl | kernel_rfl | (simp [Region.wanted, yielded]; done)) ?_; intro w' hS; obtain ⟨s0, s1, s2, s3⟩ := HF.out _ hS; rw [h1] at s1; clear hS; unfold Oper.wp; go_simp; first | done | exact Below.refl _ _)
                      · (refine FixB.on (by first | rfl | kernel_rfl | (simp [Region.wanted, yielded]; done)) ?_; intro w' hS; obtain ⟨s0, s1, s2, s3⟩ := HF.out _ hS; rw [h1] at s1; clear hS; unfold Oper.wp; go_simp; first | done | exact Below.refl _ _)
                      · (refine FixB.on (by first | rfl | kernel_rfl | (simp [Region.wanted, yielded]; done)) ?_; intro w' hS; obtain ⟨s0, s1, s2, s3⟩ := HF.out _ hS; rw [h1] at s1; clear hS; unfold Oper.wp; go_simp; first | done | exact Below.refl _ _)
                      · (with_reducible refine FixB.of ?_ ?_; rfl; intro w' hS; obtain ⟨s0, s1, s2, s3⟩ := HF.out _ hS; rw [h1] at s1; clear hS; unfold Oper.wp; go_simp; first | done | exact Below.refl _ _)
                    case hQ =>
                    intro wc hS _
                    have HB2 := Lib.hid hS
                    clear hS
                    have Hbn := Lib.hid (Hbq.out.trans (HB2.out.mono hsq))
                    obtain ⟨s0, s1, s2, s3⟩ := HF.out _ HB2.out
                    have hac := Hac.out
                    subst hac
                    obtain ⟨c7, _⟩ := OwI.spotAt (Hoq.out.below HB2.out (Nat.le_refl _)) (k := cm) (by rw [HI.out.len]; exact hcmC)
                    rw [Hgz.out] at c7
                    obtain ⟨o0, ho0⟩ : ∃ o0, o0 = owTo E zs q m := ⟨_, rfl⟩
                    rw [← ho0] at hoB HO ⊢
                    clear h1 hab s0 s1 s3 ho0
                    go_wp2_with fail
                    refine ⟨⟨m + 1, by go_num, by omega, by rw [HO.out]; congr 1; omega, Hbn.out⟩, by simp [intOf]; omega⟩
              · obtain rfl : m = N := by omega
                have hmz : ¬ ((m : Int) < (m : Int)) := by omega
                have hcc : gi (clsK E 3) q = (cq : Int) := by rw [Hcq.out]; exact (cl_val (by rw [HN.out]; exact hqN)).1
                have c8 := RdI.at0 (Rd.below Hr4.out Hb4w.out) (k := q) (by rw [clsK_length, HN.out]; exact hqN)
                rw [hcc] at c8
                obtain ⟨dz, hdz⟩ : ∃ dz, dz = Dz zs cq := ⟨_, rfl⟩
                have hbd := HI.out.bd cq hcqC
                have hgz : gi zs cq = (dz : Int) := by rw [hdz]; unfold Dz; omega
                obtain ⟨c7, z7, _, hg7, hst⟩ := OwI.spotAt Hoq.out (k := cq) (by rw [HI.out.len]; exact hcqC)
                rw [hgz] at c7
                have HOW : Hid (ow E zs q = owTo E zs q m) := by show _ = _; unfold ow; rw [HN.out]
                obtain ⟨o0, ho0⟩ : ∃ o0, o0 = owTo E zs q m := ⟨_, rfl⟩
                rw [← ho0] at hoB HOW ⊢
                have hI := HI.out
                have hb300 : bs ≤ 300 := Nat.le_trans hI.b1 HDM.out
                have hqE : q < E.length := by rw [HN.out]; exact hqN
                clear ho0 hcc hbd
                by_cases hlt : dz < o0
                · have hup := hI.up HE.out.mnd hqE (by rw [← Hcq.out]; exact hcqC) (by rw [HN.out]; exact hlen) (by rw [← Hcq.out, ← hdz, HOW.out]; exact hlt)
                  rw [← Hcq.out, HOW.out] at hup
                  have Hup := Lib.hid hup
                  have Hst := Lib.hid (hst (o0 : Int))
                  have Hbn := Lib.hid (Hb4w.out.setCell (p := ⟨gD, cq, none⟩) hg7 (I (o0 : Int)))
                  clear hI hup hst hgz hdz
                  go_wp2_with fail
                  refine ⟨⟨q + 1, zs.set cq (o0 : Int), max bs o0, true, by go_num, by omega, by congr 1; omega, rfl, Hbn.out, Hst.out, Hup.out⟩, by simp [intOf]; omega⟩
                · have hup := hI.stay HE.out.mnd hqE (by rw [← Hcq.out, ← hdz, HOW.out]; omega)
                  rw [← Hcq.out, ← hdz] at hup
                  have Hup := Lib.hid hup
                  clear hI hup hst hgz hdz
                  go_wp2_with fail
                  refine ⟨⟨q + 1, zs, max bs dz, u, by go_num, by omega, by congr 1; omega, rfl, Hb4w.out, Hoq.out, Hup.out⟩, by simp [intOf]; omega⟩
          · obtain rfl : q = N := by omega
            have hqz : ¬ ((q : Int) < (q : Int)) := by omega
            cases u
            · have HBM : Hid (bs = depM E) := by
                have h := HI.out
                rw [← HN.out] at h
                exact h.done HE.out.mnd
              have Hbe := Lib.hid (Hb4.out.trans (Hbr.out.mono hz4))
              go_wp2_with fail
              go_ret2
              exact ⟨by rw [HR.out, Hm.out, HBM.out] <;> rfl, Hbe.out⟩
            · have HNX : Hid (RI2 E C (r + 1) 0 zs bs false ∧ ∀ j, j < E.length → Dz zs (cl E j) ≤ bs) := by
                have h := HI.out
                rw [← HN.out] at h
                exact h.next
              go_wp2_with fail
              refine ⟨⟨r + 1, zs, bs, by go_num, by omega, rfl, Hbr.out, Hor.out, HNX.out.1, fun _ => HNX.out.2⟩, by simp [intOf]; omega⟩
      · obtain rfl : r = C := by omega
        have hrz : ¬ ((r : Int) < (r : Int)) := by omega
        have hrp : 0 < r := by have := HcC.out 0 hpos; omega
        have HBM : Hid (bs = depM E) := HI.out.last HE.out.mnd (by rw [← HC.out]; exact Int.le_refl _) (Hbb.out hrp)
        have Hbe := Lib.hid (Hb4.out.trans (Hbr.out.mono hz4))
        go_wp2_with fail
        go_ret2
        exact ⟨by rw [HR.out, Hm.out, HBM.out] <;> rfl, Hbe.out⟩
  · have hR := dpR_bad hm
    have hne : (monC ms [] != 0) = true := by simpa using hm
    have HR := Lib.hid hR
    clear hR hm
    go_enter Tryz.func63, Tryz.ntmps63
    go_wp2_with fail
    refine (l03Given_any A none n c 0 0 ms [] w Hx.out Rd.nil_ Hn.out rfl hb (by decide)).mono ?_
    rintro e w1 ⟨A', c', v, rfl, hr, hv, hb1⟩
    obtain ⟨Av, cv, hvv, _⟩ := hv.form
    subst hvv
    have Hb1 := Lib.hid hb1
    clear hr hv hb1
    go_wp2_with fail
    go_ret2
    exact ⟨by rw [HR.out] <;> rfl, Hb1.out⟩
end Go.Proofs.YtkbfocoaobiijaaGreat

namespace Go.Proofs.YtkbfocoaobiijaaGreat
open Go.RowKit
set_option maxRecDepth 100000
def rkR (f : M) : Int := if isMap f then (rk f : Int) else 0
theorem rkR_bad {f : M} (h : isMap f = false) : rkR f = 0 := by simp [rkR, h]
theorem rkR_good {f : M} (h : isMap f = true) : rkR f = rk f := by simp [rkR, h]
theorem ImplRank_any (f : M) (w : World) :
    Calls Tryz.prog 34 #[.agg (mc f)] w fun e w' => e = .returned (.tuple #[I (rkR f), I (cInv (isMap f))]) ∧ Below w.heap.size w w' := by
  cases h : isMap f
  · have Hr := Lib.hid (rkR_bad h)
    go_enter Tryz.func34, Tryz.ntmps34
    go_wp2_with fail
    refine (isMap_any _ _).mono ?_
    rintro e w1 ⟨rfl, hb⟩
    rw [h]
    have hbel : Below w.heap.size w w1 := Below.trans (by (repeat (first | with_reducible assumption | with_reducible exact Below.refl _ _ | with_reducible refine Below.setCell ?_ (by first | omega | (simp <;> omega)) _ | with_reducible refine Below.alloc ?_ (by first | omega | (simp <;> omega)) _ | with_reducible refine Below.drew ?_ | with_reducible refine Below.drewN ?_ _))) (hb.mono (by simp <;> omega))
    clear hb
    go_wp2
    go_ret2
    exact ⟨by rw [Hr.out] <;> rfl, hbel⟩
  · have Hr := Lib.hid (rkR_good h)
    have hv := (isMap_iff f).1 h
    go_enter Tryz.func34, Tryz.ntmps34
    go_wp2_with fail
    refine (isMap_any _ _).mono ?_
    rintro e w1 ⟨rfl, hb⟩
    rw [h]
    have hs : Six w1 w.heap.size f := Six.below (Blk.six (Blk.new w _ _)) hb (by simp)
    have hbel : Below w.heap.size w w1 := Below.trans (by (repeat (first | with_reducible assumption | with_reducible exact Below.refl _ _ | with_reducible refine Below.setCell ?_ (by first | omega | (simp <;> omega)) _ | with_reducible refine Below.alloc ?_ (by first | omega | (simp <;> omega)) _ | with_reducible refine Below.drew ?_ | with_reducible refine Below.drewN ?_ _))) (hb.mono (by simp <;> omega))
    clear hb
    go_wp2_with fail
    refine (rank_any f _ hv).mono ?_
    rintro e w2 ⟨rfl, hb⟩
    replace hbel := hbel.trans (hb.mono hbel.size)
    clear hb
    go_wp2
    go_ret2
    exact ⟨by rw [Hr.out] <;> rfl, hbel⟩
end Go.Proofs.YtkbfocoaobiijaaGreat
