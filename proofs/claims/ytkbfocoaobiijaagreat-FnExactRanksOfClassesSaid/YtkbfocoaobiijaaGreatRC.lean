/- Plain laws of ranks of products and of the ranks of classes; no program in sight. Contracts of RanksOfClasses on both sides; the lists are as each theorem states. The walk of the statement on RanksOfClasses; the lists lie below the heap's end. -/
import Derived.Test.YtkbfocoaobiijaaGreatD9
import Derived.Test.YtkbfocoaobiijaaGreatKA
import Derived.Test.YtkbfocoaobiijaaGreatJK
import Derived.Test.YtkbfocoaobiijaaGreatK1
import Derived.Test.YtkbfocoaobiijaaGreatOpen
namespace Go.Proofs.YtkbfocoaobiijaaGreat
open Go.RowKit
set_option maxRecDepth 100000
set_option linter.unusedSimpArgs false
set_option linter.unusedVariables false

theorem at_bd {f : M} (hf : Valid f) {i : Nat} (hi : i < f.p.toNat) : 0 ≤ f.at i ∧ f.at i < f.p ∧ f.p ≤ 5 ∧ i < 5 := by
  have h1 := hf.p1
  have h5 := hf.p5
  exact ⟨hf.lo i (by omega) (by omega), hf.hi i (by omega) (by omega), h5, by omega⟩
theorem sel_nodup (q : Int → Bool) (n : Nat) : (sel q n).Nodup := (sel_strict q n).imp fun h e => by omega
theorem rk_mul_r {f g : M} (hf : Valid f) (hp : f.p = g.p) : rk (mul f g) ≤ rk g := by
  unfold rk
  refine nodup_sub_len (sel_nodup _ _) fun z hz => ?_
  obtain ⟨⟨k, hk, rfl⟩, hq⟩ := sel_mem.1 hz
  rw [mul_p] at hq
  obtain ⟨i, hi, e⟩ := imQ_ups.1 hq
  refine sel_mem.2 ⟨⟨k, hk, rfl⟩, imQ_ups.2 ⟨(f.at i).toNat, ?_, ?_⟩⟩
  · have := at_bd hf hi
    rw [← hp]; omega
  · rw [at_mul f g (by have := at_bd hf hi; omega), if_pos (by omega)] at e
    exact e
theorem rk_mul_l {f g : M} (hf : Valid f) : rk (mul f g) ≤ rk f := by
  unfold rk
  have hlen : (sel (imQ f (ups f.p.toNat)) 5).length = ((sel (imQ f (ups f.p.toNat)) 5).map fun y => g.at y.toNat).length := by rw [List.length_map]
  rw [hlen]
  refine nodup_sub_len (sel_nodup _ _) fun z hz => ?_
  obtain ⟨⟨k, hk, rfl⟩, hq⟩ := sel_mem.1 hz
  rw [mul_p] at hq
  obtain ⟨i, hi, e⟩ := imQ_ups.1 hq
  rw [at_mul f g (by have := at_bd hf hi; omega), if_pos (by omega)] at e
  rw [List.mem_map]
  have hb := at_bd hf hi
  refine ⟨f.at i, sel_mem.2 ⟨⟨(f.at i).toNat, by omega, by omega⟩, ?_⟩, e⟩
  rw [show f.at i = ((f.at i).toNat : Int) by omega]
  exact imQ_ups.2 ⟨i, hi, by omega⟩
theorem rk_JJ {n : Int} {E : List M} (hm : Mnd n E) {f g : M} (hf : f ∈ E) (h : JJ E f g) : rk g ≤ rk f := by
  obtain ⟨x, hx, y, hy, rfl⟩ := h
  have vf := hm.ok f hf
  have vx := hm.ok x hx
  have vfy := hm.ok _ (hm.mulE f hf y hy)
  exact Nat.le_trans (rk_mul_r vx.1 (by rw [vx.2, vfy.2])) (rk_mul_l vf.1)
theorem rk_same {n : Int} {E : List M} (hm : Mnd n E) {i k : Nat} (hi : i < E.length) (hk : k < E.length) (h : sameK E 3 i k = true) : rk (gm E i) = rk (gm E k) := by
  rw [sameK_3, decide_eq_true_eq] at h
  have h1 := rk_JJ hm (gm_mem hi) h.1
  have h2 := rk_JJ hm (gm_mem hk) h.2
  omega
/-- the ranks of the classes -/
def rcL (E : List M) : List Int := (List.range (cntK E 3).toNat).map fun (c : Nat) => (rk (gm E (fk (fun j => decide (gi (clsK E 3) j = (c : Int))) E.length)) : Int)
theorem rcL_eq {n : Int} {E : List M} (hm : Mnd n E) {L : List Int} (hl : (L.length : Int) = cntK E 3) (h : ∀ j, j < E.length → gi L (gi (clsK E 3) j).toNat = (rk (gm E j) : Int)) : L = rcL E := by
  refine List.ext_getElem (by unfold rcL; rw [List.length_map, List.length_range]; omega) fun c h1 h2 => ?_
  have hcC : (c : Int) < (nm (sameK E 3) E.length).2 := by
    have : (c : Int) < cntK E 3 := by omega
    exact this
  obtain ⟨j, hj, e⟩ := nm_onto (sameK E 3) E.length (c : Int) (by omega) hcC
  have e : gi (clsK E 3) j = (c : Int) := e
  have hv := h j hj
  rw [e] at hv
  have hR : (rcL E)[c] = (rk (gm E (fk (fun j => decide (gi (clsK E 3) j = (c : Int))) E.length)) : Int) := by simp [rcL]
  have hL : L[c] = gi L (c : Int).toNat := by simp [gi, List.getD, h1]
  rw [hR, hL, hv]
  rcases fk_cases (fun j => decide (gi (clsK E 3) j = (c : Int))) E.length with ⟨a, b, _⟩ | ⟨_, b⟩
  · have b := of_decide_eq_true b
    have := rk_same hm hj a ((clsK_eq hm 3 hj a).1 (by rw [e, b]))
    rw [this]
  · have := b j hj
    simp [e] at this
theorem nm_pre (same : Nat → Nat → Bool) {q : Nat} : ∀ {i : Nat}, q < i → gi (nm same i).1 q = gi (nm same (q + 1)).1 q
  | 0, h => by omega
  | i + 1, h => by
    by_cases e : q = i
    · rw [e]
    · have hq : q < i := by omega
      rw [← nm_pre same hq]
      rcases fk_cases (fun j => same j i) i with ⟨a, b, c⟩ | ⟨_, b⟩
      · rw [nm_hit a b c]; exact gi_app (by rw [nm_length]; exact hq)
      · rw [nm_new b]; exact gi_app (by rw [nm_length]; exact hq)
theorem rc_case {E : List M} {q : Nat} (hq : q < E.length) :
    (gi (clsK E 3) q = (nm (sameK E 3) q).2 ∧ (nm (sameK E 3) (q + 1)).2 = (nm (sameK E 3) q).2 + 1) ∨
    ∃ k, k < q ∧ sameK E 3 k q = true ∧ gi (clsK E 3) q < (nm (sameK E 3) q).2 ∧ gi (clsK E 3) q = gi (clsK E 3) k ∧ (nm (sameK E 3) (q + 1)).2 = (nm (sameK E 3) q).2 := by
  have h1 : gi (clsK E 3) q = gi (nm (sameK E 3) (q + 1)).1 q := nm_pre _ hq
  have hl := nm_length (sameK E 3) q
  rcases fk_cases (fun j => sameK E 3 j q) q with ⟨a, b, c⟩ | ⟨_, b⟩
  · right
    obtain ⟨k, hk⟩ : ∃ k, k = fk (fun j => sameK E 3 j q) q := ⟨_, rfl⟩
    rw [← hk] at a b
    have hit := nm_hit a b (by rw [hk]; exact c)
    rw [hit] at h1
    have h1 : gi (clsK E 3) q = gi (nm (sameK E 3) q).1 k := by rw [h1]; exact gi_last hl
    have hv := nm_val (sameK E 3) q k a
    refine ⟨k, a, b, by rw [h1]; exact hv.2, ?_, by rw [hit]⟩
    rw [h1]
    have h2 : gi (clsK E 3) k = gi (nm (sameK E 3) (k + 1)).1 k := nm_pre _ (by omega)
    rw [h2, nm_pre (sameK E 3) a]
  · left
    have hn := nm_new b
    rw [hn] at h1
    exact ⟨by rw [h1]; exact gi_last hl, by rw [hn]⟩

set_option maxRecDepth 100000
set_option linter.unusedSimpArgs false
set_option linter.unusedVariables false

def rcR (ms : List M) : List Int := if monC ms [] = 0 then rcL (elR ms []) else []
theorem rcR_bad {ms : List M} (h : monC ms [] ≠ 0) : rcR ms = [] := if_neg h
theorem rcR_len (ms : List M) : (rcR ms).length ≤ 300 := by
  unfold rcR
  split
  · rename_i h
    obtain ⟨E, ps, hE, _⟩ := monC_el h
    have h1 := cntK_bd E 3
    have h2 := hE.len
    rw [hE.r]
    unfold rcL
    rw [List.length_map, List.length_range]
    omega
  · simp
def rcl (E : List M) (i : Nat) : Nat := (gi (clsK E 3) i).toNat
theorem rcl_val {E : List M} {i : Nat} (hi : i < E.length) : gi (clsK E 3) i = (rcl E i : Int) ∧ (rcl E i : Int) < cntK E 3 := by
  have h := clsK_val E 3 hi
  unfold rcl
  omega
theorem rcl_same {n : Int} {E : List M} (hm : Mnd n E) {i k : Nat} (hi : i < E.length) (hk : k < E.length) (h : rcl E i = rcl E k) : rk (gm E i) = rk (gm E k) := by
  refine rk_same hm hi hk ((clsK_eq hm 3 hi hk).1 ?_)
  rw [(rcl_val hi).1, (rcl_val hk).1, h]
theorem gi_set1 {zs : List Int} {i : Nat} (hi : i < zs.length) (z : Int) : gi (zs.set i z) i = z := by
  unfold gi
  rw [List.getD_eq_getElem?_getD, List.getElem?_set_self hi]
  rfl
theorem gi_set2 {zs : List Int} {i j : Nat} (hij : i ≠ j) (z : Int) : gi (zs.set i z) j = gi zs j := by
  unfold gi
  rw [List.getD_eq_getElem?_getD, List.getElem?_set_ne hij, ← List.getD_eq_getElem?_getD]
theorem rcm_bd (E : List M) {N : Nat} (hn : E.length = N) (hN : N ≤ 300) : ∀ j, j < N → 0 ≤ gi (clsK E 3) j ∧ gi (clsK E 3) j ≤ 300 := by
  subst hn
  intro j hj
  have h1 := clsK_val E 3 hj
  have h2 := cntK_bd E 3
  omega
theorem rcm_mx (E : List M) {N : Nat} (hn : E.length = N) : mxT (clsK E 3) N + 1 = cntK E 3 := by
  subst hn
  exact mxT_nm _ _

set_option maxHeartbeats 2000000 in
theorem SpecRC_any (A : Option Addr) (n c : Nat) (ms : List M) (w : World) (hx : RdM w w.heap.size A ms) (hn : ms.length = n) (hb : n < 1073741824) :
    Calls Tryz.prog 47 #[.slice A n c] w (RetSI (rcR ms) (monC ms []) w) := by
  obtain ⟨i0, hi, hz0, hz1, hz2⟩ := info_parts infoI
  have Hx := Lib.hid hx
  have Hn := Lib.hid hn
  clear hx hn
  by_cases hm : monC ms [] = 0
  · obtain ⟨E, ps, hE, _⟩ := monC_el hm
    have hR : rcR ms = rcL E := by unfold rcR; rw [if_pos hm, hE.r]
    have hG : gR ms [] = E := by unfold gR; rw [if_pos hm, hE.r]
    have hlen := hE.len
    have hn6 := hE.n6
    obtain ⟨N, hN⟩ : ∃ N, E.length = N := ⟨_, rfl⟩
    rw [hN] at hlen
    have hcb := cntK_bd E 3
    rw [hN] at hcb
    obtain ⟨C, hC⟩ : ∃ C : Nat, (C : Int) = cntK E 3 := ⟨(cntK E 3).toNat, by omega⟩
    have hC3 : C ≤ 300 := by omega
    have HcC : Hid (∀ i, i < N → rcl E i < C) := fun i hi => by have := (rcl_val (E := E) (i := i) (by rw [hN]; exact hi)).2; omega
    have HR := Lib.hid hR
    have HG := Lib.hid hG
    have HN := Lib.hid hN
    have HE := Lib.hid hE
    have Hm := Lib.hid hm
    have HC := Lib.hid hC
    have hn6' : n ≤ 6 := by rw [← Hn.out]; exact hn6
    clear hE hR hG hN hm hn6 hcb hC
    go_enter Tryz.func47, Tryz.ntmps47
    go_wp2_with fail
    refine (l03Given_any A none n c 0 0 ms [] w Hx.out Rd.nil_ Hn.out rfl hb (by decide)).mono ?_
    rintro e w1 ⟨A', c', v, rfl, hr, hv, hb1⟩
    rw [HG.out] at hr ⊢
    rw [Hm.out, HN.out]
    obtain ⟨Av, cv, hvv, _⟩ := hv.form
    subst hvv
    have Hr := Lib.hid hr
    have Hb1 := Lib.hid hb1
    have hz1' := hb1.size
    clear hr hv hb1
    go_wp2_with fail
    refine (l03Kind1_any A' N c' E A n c ms 3 true true (.inr (.inr ⟨rfl, rfl, rfl⟩)) w1 Hr.out HN.out (Rd.more (Rd.below Hx.out Hb1.out) hz1') Hn.out hlen hn6' HE.out.mnd HE.out.mem HE.out.G).mono ?_
    rintro e w3 ⟨v2, rfl, ho3, hb3⟩
    obtain ⟨A3, c3, hv3, _⟩ := ho3.form
    rw [clsK_length, HN.out] at hv3
    subst hv3
    have Hr3 := Lib.hid ho3.rdA
    have Hre := Lib.hid (Rd.more (Rd.below Hr.out hb3) hb3.size)
    have Hb3 := Lib.hid (Hb1.out.trans (hb3.mono hz1'))
    have hz3 := Hb3.out.size
    clear ho3 hb3 Hr
    go_wp2_with fail
    refine (l03Number_any A3 N c3 (clsK E 3) w3 Hr3.out (by rw [clsK_length, HN.out]) hlen (rcm_bd E HN.out hlen)).mono ?_
    rintro e w4 ⟨rfl, hb4⟩
    rw [rcm_mx E HN.out, ← HC.out]
    have Hr4 := Lib.hid (Rd.more (Rd.below Hr3.out hb4) hb4.size)
    have Hre4 := Lib.hid (Rd.more (Rd.below Hre.out hb4) hb4.size)
    have Hb4 := Lib.hid (Hb3.out.trans (hb4.mono hz3))
    have hz4 := Hb4.out.size
    clear hb4 Hr3 Hre
    go_wp2_with (at_make; refine wpList_make_full _ rfl _ _ _ rfl w4.heap.size 2 i0 (.int .i64 0) 1 Tryz.underlying39 hi hz0 hz1 .i64 .i64 _ _ C rfl rfl rfl rfl (by rw [hz2]; omega) (by unfold maxLen; omega) (Nat.le_refl _) ?_; intro w5 hown hgr; have Ho5 := Lib.hid (madeI hown); have Hb5 := Lib.hid ((Below.refl w4.heap.size w4).grown hgr (Nat.le_refl _) (fun k hk => by cases hk)); clear hown hgr)
    clear hi hz0 hz1 hz2
    obtain ⟨gD, hgD⟩ : ∃ gD, gD = w4.heap.size := ⟨_, rfl⟩
    rw [← hgD] at Ho5 ⊢
    have Hgd := Lib.hid hgD
    clear hgD
    go_loopw [9] (fun t wr => ∃ (q : Nat) (zs : List Int), t = .int .i64 q ∧ q ≤ N ∧ Below w4.heap.size w4 wr ∧ OwI 2 wr w4.heap.size (.slice (some ⟨gD, 0, none⟩) C C) zs ∧ zs.length = C ∧ Hid (∀ j, j < q → gi zs (rcl E j) = (rk (gm E j) : Int))) (fun t _ => N - (intOf t).toNat)
    case atStart => exact ⟨0, List.replicate C 0, rfl, by omega, Hb5.out, by rw [← Hgd.out]; exact Ho5.out, List.length_replicate .., fun j hj => by omega⟩
    case round =>
      clear Ho5 Hb5
      obtain ⟨q, zs, rfl, hq, hbr, hor, hzl, Hv⟩ := hrel
      have Hbr := Lib.hid hbr
      have Hor := Lib.hid hor
      have Hzl := Lib.hid hzl
      have hszr := hbr.size
      clear hbr hor hzl
      by_cases hqN : q < N
      · have hqz : (q : Int) < (N : Int) := by omega
        obtain ⟨cq, hcq⟩ : ∃ cq, cq = rcl E q := ⟨_, rfl⟩
        have hcqC : cq < C := by rw [hcq]; exact HcC.out q hqN
        have hcqz : (cq : Int) < (C : Int) := by omega
        obtain ⟨bc, oc, rfl, hbc, _⟩ := RdI.at_ Hr4.out (k := q) (by rw [clsK_length, HN.out]; exact hqN)
        obtain ⟨b6, o6, rfl, hb6, _⟩ := RdM.at_ Hre4.out (k := q) (by rw [HN.out]; exact hqN)
        obtain ⟨z, hz⟩ : ∃ z, z = gm E q := ⟨_, rfl⟩
        have hvz : Valid z := by rw [hz]; exact (HE.out.mnd.ok _ (gm_mem (by rw [HN.out]; exact hqN))).1
        have HF : Hid (∀ w', Below wr.heap.size wr w' → w'.cell? ⟨bc, oc + q, none⟩ = some (I cq) ∧ SixAt w' b6 (o6 + q * 6) z) := fun w' hS => by
          have hB := Hbr.out.trans (hS.mono hszr)
          rw [hz, hcq, ← (rcl_val (E := E) (i := q) (by rw [HN.out]; exact hqN)).1]
          exact ⟨RdI.at0 (Rd.below Hr4.out hB) (by rw [clsK_length, HN.out]; exact hqN), (RdM.six (Rd.below Hre4.out hB) (by rw [HN.out]; exact hqN)).1⟩
        have Hv2 : Hid (∀ j, j < q + 1 → gi (zs.set cq (rk z : Int)) (rcl E j) = (rk (gm E j) : Int)) := fun j hj => by
          by_cases e : cq = rcl E j
          · rw [← e, gi_set1 (by rw [Hzl.out]; exact hcqC), hz]
            by_cases e2 : j = q
            · rw [e2]
            · rw [rcl_same HE.out.mnd (i := q) (k := j) (by rw [HN.out]; exact hqN) (by rw [HN.out]; omega) (by rw [← hcq]; exact e)]
          · rw [gi_set2 e]
            exact Hv.out j (by by_cases e2 : j = q; (rw [e2] at e; exact absurd hcq e); omega)
        have Hcq := Lib.hid hcq
        have Hz := Lib.hid hz
        clear hcq hz
        go_wp2_with fail
        refine wp_region_last [] rfl (by kernel_rfl) (by kernel_rfl) (by kernel_rfl) (by kernel_rfl) (fun w' => Below wr.heap.size wr w')
          (fun w' => ∃ w3, Below wr.heap.size wr w3 ∧ w' = w3.setCell ⟨gD, cq, none⟩ (I (rk z))) _
          [.slice (some ⟨gD, 0, none⟩) C C, .slice (some ⟨bc, oc, none⟩) N c3, I q, .pointer (some ⟨bc, oc + q, none⟩), I cq, .slice (some ⟨b6, o6, none⟩) N c', I q, .pointer (some ⟨b6, o6 + q * 6, none⟩), .agg (mc z), I (rk z), .pointer (some ⟨gD, cq, none⟩), undef]
          (by simp only [putAll, List.setIfInBounds_toArray, List.set_cons_succ, List.set_cons_zero]; rfl) (Below.refl _ _).drew 11 _ rfl rfl ?hop ?hst ?hQ
        case hop =>
          refine FixBL.toL (fun w' w'' hS hb => hS.trans (hb.mono hS.size)) _ _ ?_
          refine ⟨.inr ?_, .inr ?_, .inr ?_, .inr ?_, .inr ?_, .inr ?_, .inr ?_, .inr ?_, .inr ?_, .inr ?_, .inr ?_, .inl rfl, trivial⟩
          · (with_reducible refine FixB.of ?_ ?_; rfl; intro w' hS; obtain ⟨s0, s1⟩ := HF.out _ hS; clear hS; unfold Oper.wp; go_simp; first | done | exact Below.refl _ _)
          · (with_reducible refine FixB.of ?_ ?_; rfl; intro w' hS; obtain ⟨s0, s1⟩ := HF.out _ hS; clear hS; unfold Oper.wp; go_simp; first | done | exact Below.refl _ _)
          · (with_reducible refine FixB.of ?_ ?_; rfl; intro w' hS; obtain ⟨s0, s1⟩ := HF.out _ hS; clear hS; unfold Oper.wp; go_simp; first | done | exact Below.refl _ _)
          · (with_reducible refine FixB.of ?_ ?_; rfl; intro w' hS; obtain ⟨s0, s1⟩ := HF.out _ hS; clear hS; unfold Oper.wp; go_simp; first | done | exact Below.refl _ _)
          · (with_reducible refine FixB.of ?_ ?_; rfl; intro w' hS; obtain ⟨s0, s1⟩ := HF.out _ hS; clear hS; unfold Oper.wp; go_simp; first | done | exact Below.refl _ _)
          · (with_reducible refine FixB.of ?_ ?_; rfl; intro w' hS; obtain ⟨s0, s1⟩ := HF.out _ hS; clear hS; unfold Oper.wp; go_simp; first | done | exact Below.refl _ _)
          · (with_reducible refine FixB.of ?_ ?_; rfl; intro w' hS; obtain ⟨s0, s1⟩ := HF.out _ hS; clear hS; unfold Oper.wp; go_simp; first | done | exact Below.refl _ _)
          · (with_reducible refine FixB.of ?_ ?_; rfl; intro w' hS; obtain ⟨s0, s1⟩ := HF.out _ hS; clear hS; unfold Oper.wp; go_simp; first | done | exact Below.refl _ _)
          · (with_reducible refine FixB.of ?_ ?_; rfl; intro w' hS; obtain ⟨s0, s1⟩ := HF.out _ hS; clear hS; unfold Oper.wp; go_simp; first | done | exact Below.refl _ _)
          · (with_reducible refine FixB.of ?_ ?_; rfl; intro w' hS; have s3 := Lib.hid hS; unfold Oper.wp; clear hS; go_simp; refine (l01Rank_any z _ hvz).mono ?_; rintro e w1 ⟨rfl, hb⟩; exact ⟨rfl, hb⟩)
          · (with_reducible refine FixB.of ?_ ?_; rfl; intro w' hS; obtain ⟨s0, s1⟩ := HF.out _ hS; clear hS; unfold Oper.wp; go_simp; first | done | exact Below.refl _ _)
        case hst =>
          refine ⟨rfl, fun w' hS => ?_⟩
          obtain ⟨c0, z0, _, _, _⟩ := OwI.spotAt (Hor.out.below hS (Nat.le_refl _)) (k := cq) (by rw [Hzl.out]; exact hcqC)
          have Hs := Lib.hid hS
          clear hS
          unfold Oper.wp
          go_simp
          exact ⟨w', Hs.out, rfl⟩
        case hQ =>
        rintro w' ⟨w6, hb6', rfl⟩
        obtain ⟨_, _, _, hgd5, hst⟩ := OwI.spotAt (Hor.out.below hb6' (Nat.le_refl _)) (k := cq) (by rw [Hzl.out]; exact hcqC)
        have Hend := Lib.hid (hst (rk z))
        have Hbe := Lib.hid ((Hbr.out.trans (hb6'.mono hszr)).setCell (p := ⟨gD, cq, none⟩) hgd5 (I (rk z)))
        clear hb6' hst
        go_wp2_with fail
        go_roundw
        case rel => exact ⟨q + 1, zs.set cq (rk z), by go_num, by omega, Hbe.out, Hend.out, by rw [List.length_set]; exact Hzl.out, Hv2⟩
        case measure => simp [intOf]; omega
      · obtain rfl : q = N := by omega
        have hqz : ¬ ((q : Int) < (q : Int)) := by omega
        have HF : Hid (zs = rcL E) := rcL_eq HE.out.mnd (by rw [Hzl.out]; exact HC.out) (fun j hj => Hv.out j (by rw [← HN.out]; exact hj))
        have HrE := Lib.hid Hor.out.rdA
        have Hbe := Lib.hid (Hb4.out.trans (Hbr.out.mono hz4))
        have HzC : Hid ((rcL E).length = C) := by show _ = _; rw [← HF.out]; exact Hzl.out
        go_wp2_with fail
        go_ret2
        exact .mk (some ⟨gD, 0, none⟩) C (by rw [HR.out, HzC.out, Hm.out] <;> rfl) (by rw [HR.out, ← HF.out]; exact HrE.out) Hbe.out
  · have hR := rcR_bad hm
    have hne : (monC ms [] != 0) = true := by simpa using hm
    have HR := Lib.hid hR
    clear hR hm
    go_enter Tryz.func47, Tryz.ntmps47
    go_wp2_with fail
    refine (l03Given_any A none n c 0 0 ms [] w Hx.out Rd.nil_ Hn.out rfl hb (by decide)).mono ?_
    rintro e w1 ⟨A', c', v, rfl, hr, hv, hb1⟩
    obtain ⟨Av, cv, hvv, _⟩ := hv.form
    subst hvv
    have Hb1 := Lib.hid hb1
    clear hr hv hb1
    go_wp2_with fail
    go_ret2
    exact .mk none 0 (by rw [HR.out] <;> rfl) (by rw [HR.out]; exact Rd.nil_) Hb1.out

set_option maxHeartbeats 2000000 in
theorem ImplRC_any (A : Option Addr) (n c : Nat) (ms : List M) (w : World) (hx : RdM w w.heap.size A ms) (hn : ms.length = n) (hA : A = none → n = 0 ∧ c = 0) (hb : n < 536870912) :
    Calls Tryz.prog 40 #[.slice A n c] w (RetI (rcR ms) (monC ms []) w) := by
  have Hx := Lib.hid hx
  have Hn := Lib.hid hn
  have HA := Lib.hid hA
  clear hx hn hA
  by_cases hm : monC ms [] = 0
  · obtain ⟨E, ps, hE, _⟩ := monC_el hm
    have hR : rcR ms = rcL E := by unfold rcR; rw [if_pos hm, hE.r]
    have hlen := hE.len
    have hpos := hE.pos
    obtain ⟨N, hN⟩ : ∃ N, E.length = N := ⟨_, rfl⟩
    rw [hN] at hlen hpos
    have HR := Lib.hid hR
    have HN := Lib.hid hN
    have HE := Lib.hid hE
    have Hm := Lib.hid hm
    clear hE hR hm hN
    go_enter Tryz.func40, Tryz.ntmps40
    go_wp2_with fail
    refine (monoidOf_any A none n c 0 0 ms [] w Hx.out Rd.nil_ Hn.out rfl HA.out (fun _ => ⟨rfl, rfl⟩) (by omega)).mono ?_
    rintro e w3 ⟨r, v, rfl, hb3, hr0, hs⟩
    obtain ⟨g0, rfl, hM, hv⟩ := hs ps HE.out.clo Hm.out
    rw [← HE.out.eq] at hM
    rw [Hm.out]
    obtain ⟨Av, cv, hvv, hrv⟩ := hv.form
    subst hvv
    have HM := Lib.hid hM
    have Hb3 := Lib.hid hb3
    have hz3 := hb3.size
    clear hM hs hr0 hv hrv hb3
    go_wp2_with fail
    refine (ideals_any w3 HM.out HE.out.len HE.out.mnd).mono ?_
    rintro e w4 ⟨d, rfl, hI, hb4⟩
    have HI := Lib.hid hI
    have HM4 := Lib.hid (HM.out.below hb4 (Nat.le_refl _))
    have Hb4 := Lib.hid (Hb3.out.trans (hb4.mono hz3))
    have hz4 := Hb4.out.size
    clear hI hb4 HM
    go_wp2_with fail
    refine (classes_any w4 HI.out HE.out.len HE.out.mnd).mono ?_
    rintro e w5 ⟨v, rfl, ho3, hb5⟩
    obtain ⟨A3, c3, hv3, hr3⟩ := ho3.form
    rw [clsK_length, HN.out] at hv3
    subst hv3
    have Hr5 := Lib.hid hr3
    obtain ⟨_, ev, wv, pl, vs, hM2, _, hO2, _⟩ := HM4.out.below hb5 (Nat.le_refl _)
    obtain ⟨gE, cE, rfl⟩ := hO2.some_ HE.out.pos
    have cm := hM2.c0
    rw [HN.out] at cm
    have lm := World.block_lt_of_cell? w5 ⟨g0, 0, none⟩ cm
    have Hcm := Lib.hid cm
    have Hre := Lib.hid hO2.rd
    have Hb5 := Lib.hid (Hb4.out.trans (hb5.mono hz4))
    have hz5 := Hb5.out.size
    clear ho3 hr3 hb5 hM2 hO2 cm
    go_wp2_with fail
    go_loopw [7, 23] (fun v t wr => ∃ (q : Nat) (L : List Int), t = .int .i64 q ∧ q ≤ N ∧ Below w5.heap.size w5 wr ∧ OwI 2 wr w5.heap.size v L ∧ Hid ((L.length : Int) = (nm (sameK E 3) q).2 ∧ ∀ j, j < q → gi L (rcl E j) = (rk (gm E j) : Int))) (fun _ t _ => N - (intOf t).toNat)
    case atStart => exact ⟨0, [], rfl, by omega, Below.refl _ _, OwI.nil_, ⟨rfl, fun j hj => by omega⟩⟩
    case round =>
      obtain ⟨q, L, rfl, hq, hbr, hor, Hv⟩ := hrel
      have hnb := nm_bd (sameK E 3) q
      obtain ⟨A7, c7, hv7, _⟩ := hor.form
      obtain ⟨K, hK⟩ : ∃ K, L.length = K := ⟨_, rfl⟩
      rw [hK] at hv7
      subst hv7
      have hKq : (K : Int) = (nm (sameK E 3) q).2 := by rw [← hK]; exact Hv.out.1
      have hKN : K ≤ q := by omega
      have Hbr := Lib.hid hbr
      have Hor := Lib.hid hor
      have HK := Lib.hid hK
      have hszr := hbr.size
      clear hbr hor hK
      by_cases hqN : q < N
      · have hqz : (q : Int) < (N : Int) := by omega
        obtain ⟨bc, oc, rfl, hbc, _⟩ := RdI.at_ Hr5.out (k := q) (by rw [clsK_length, HN.out]; exact hqN)
        have x1 := RdI.at0 (Rd.below Hr5.out Hbr.out) (k := q) (by rw [clsK_length, HN.out]; exact hqN)
        have hval := rcl_val (E := E) (i := q) (by rw [HN.out]; exact hqN)
        obtain ⟨cq, hcq⟩ : ∃ cq, cq = rcl E q := ⟨_, rfl⟩
        rw [← hcq] at hval
        rw [hval.1] at x1
        rcases rc_case (E := E) (q := q) (by rw [HN.out]; exact hqN) with ⟨h1, h2⟩ | ⟨k, hk, hsk, h1, h2, h3⟩
        · have hKc : cq = K := by omega
          obtain ⟨z, hz⟩ : ∃ z, z = gm E q := ⟨_, rfl⟩
          have hvz : Valid z := by rw [hz]; exact (HE.out.mnd.ok _ (gm_mem (by rw [HN.out]; exact hqN))).1
          have h6 := (RdM.six (Rd.below Hre.out Hbr.out) (k := q) (by rw [HN.out]; exact hqN)).1
          rw [← hz, Nat.zero_add] at h6
          have cm := (Hbr.out.cell (p := ⟨g0, 0, none⟩) lm).trans Hcm.out
          have Hv2 : Hid (((L ++ [(rk z : Int)]).length : Int) = (nm (sameK E 3) (q + 1)).2 ∧ ∀ j, j < q + 1 → gi (L ++ [(rk z : Int)]) (rcl E j) = (rk (gm E j) : Int)) := by
            refine ⟨by rw [List.length_append, List.length_singleton, HK.out, h2, ← hKq]; push_cast; rfl, fun j hj => ?_⟩
            by_cases e : j = q
            · rw [e, ← hcq, hKc, gi_last HK.out, hz]
            · have hjv := rcl_val (E := E) (i := j) (by rw [HN.out]; omega)
              have hlt : rcl E j < L.length := by
                have hp : gi (clsK E 3) j = gi (nm (sameK E 3) q).1 j := by
                  have e1 : gi (clsK E 3) j = gi (nm (sameK E 3) (j + 1)).1 j := nm_pre _ (by rw [HN.out]; omega)
                  rw [e1, nm_pre (sameK E 3) (show j < q by omega)]
                have := (nm_val (sameK E 3) q j (by omega)).2
                rw [HK.out]
                omega
              rw [gi_app hlt]
              exact Hv.out.2 j (by omega)
          obtain ⟨y0, y1, y2, y3, y4, y5⟩ := h6
          have Hz := Lib.hid hz
          subst hKc
          clear hnb h1 h2 hKq hval hcq hz
          go_wp2_with fail
          refine (rank_any z wr hvz).mono ?_
          rintro e w6 ⟨rfl, hb6⟩
          have Ho6 := Lib.hid (Hor.out.below hb6 (Nat.le_refl _))
          have Hb6 := Lib.hid (Hbr.out.trans (hb6.mono hszr))
          have hz6 := Hb6.out.size
          obtain ⟨rr, hrr⟩ : ∃ rr : Int, rr = (rk z : Int) := ⟨_, rfl⟩
          rw [← hrr] at Hv2 ⊢
          clear hb6 y0 y1 y2 y3 y4 y5 hrr
          go_wp2_with (at_builtin; refine wpList_pushI rfl (.tmp 32) (.tmp 41) rfl w5.heap.size (.slice A7 cq c7) L rfl (Ho6.out.alloc _) w6.heap.size 1 rr rfl ((Blk.new _ _ _).cell 0) (by rw [HK.out]; omega) (by simp; omega) (w6.heap.size + 1) (by simp) ?_; intro g' cap w7 ho' hgr hg' hlt'; have Hb7 := Lib.hid ((Ho6.out.alloc (.cells #[I rr] 2)).bel (Hb6.out.alloc (by omega) _) hgr (Nat.le_refl _) (by simp; omega)); have Ho7 := Lib.hid ho'; clear ho' hgr hg' hlt')
          go_roundw
          case rel => exact ⟨q + 1, _, by go_num, by omega, Hb7.out, Ho7.out, Hv2⟩
          case measure => simp [intOf]; omega
        · have hne : ¬ (cq = K) := by omega
          have Hv2 : Hid ((L.length : Int) = (nm (sameK E 3) (q + 1)).2 ∧ ∀ j, j < q + 1 → gi L (rcl E j) = (rk (gm E j) : Int)) := by
            refine ⟨by rw [h3]; exact Hv.out.1, fun j hj => ?_⟩
            by_cases e : j = q
            · have hc : rcl E q = rcl E k := by unfold rcl; rw [h2]
              rw [e, hc, Hv.out.2 k hk, rk_same HE.out.mnd (by rw [HN.out]; omega) (by rw [HN.out]; exact hqN) hsk]
            · exact Hv.out.2 j (by omega)
          clear hnb h1 h2 h3 hKq hval hcq hsk
          go_wp2_with fail
          go_roundw
          case rel => exact ⟨q + 1, L, by go_num, by omega, Hbr.out, Hor.out, Hv2⟩
          case measure => simp [intOf]; omega
      · obtain rfl : q = N := by omega
        have hqz : ¬ ((q : Int) < (q : Int)) := by omega
        have HF : Hid (L = rcL E) := rcL_eq HE.out.mnd (by have := Hv.out.1; rw [← HN.out] at this; exact this) (fun j hj => Hv.out.2 j (by rw [← HN.out]; exact hj))
        have Hbe := Lib.hid (Hb5.out.trans (Hbr.out.mono hz5))
        have Hoe := Lib.hid (Hor.out.mono hz5)
        clear hnb hKq
        go_wp2_with fail
        go_ret2
        exact .mk _ (by rw [Hm.out] <;> rfl) (by rw [HR.out, ← HF.out]; exact Hoe.out) Hbe.out
  · have hR := rcR_bad hm
    have hne : (monC ms [] != 0) = true := by simpa using hm
    have HR := Lib.hid hR
    have Hm := Lib.hid hm
    clear hR hm
    go_enter Tryz.func40, Tryz.ntmps40
    go_wp2_with fail
    refine (monoidOf_any A none n c 0 0 ms [] w Hx.out Rd.nil_ Hn.out rfl HA.out (fun _ => ⟨rfl, rfl⟩) (by omega)).mono ?_
    rintro e w3 ⟨r, v, rfl, hb3, hr0, hs⟩
    obtain ⟨rfl, rfl⟩ := hr0 Hm.out
    have Hb3 := Lib.hid hb3
    clear hs hr0 hb3
    go_wp2_with fail
    go_ret2
    exact .mk _ rfl (by rw [HR.out]; exact OwI.nil_) Hb3.out

set_option maxRecDepth 100000
set_option linter.unusedSimpArgs false
set_option linter.unusedVariables false

theorem lawRanksOfClasses (A : Option Addr) (n c : Nat) (ms : List M) (w : World) (hx : RdM w w.heap.size A ms) (hn : ms.length = n) (hmax : n ≤ maxLen) :
    Calls Tryz.prog 7 #[.slice A n c] w fun e w' => e = .returned (.bool true) ∧ Below w.heap.size w w' := by
  have Hn := Lib.hid hn
  have HX := Lib.hid hx
  have hmax2 : n ≤ 9223372036854775807 := by unfold maxLen at hmax; omega
  clear hn hx hmax
  by_cases hl : 1048576 < n
  · have h1 : (if (1048576 : Nat) < n then (-1 : Int) else ((1048576 - n : Nat) : Int)) = -1 := if_pos hl
    have Hsz : Hid (∀ w, Calls Tryz.prog 90 #[.slice A n c, .int .i64 1048576] w fun e w' => e = .returned (.int .i64 (-1)) ∧ w = w') := fun w => by have := szM_any A n c 1048576 w (by omega) hmax2; rw [h1] at this; exact this
    clear h1
    go_enter Tryz.func7, Tryz.ntmps7
    go_wp2_with fail
    refine (Hsz.out _).mono ?_
    rintro e w1 ⟨rfl, rfl⟩
    go_wp2
    go_ret
    exact ⟨rfl, (Below.refl _ _)⟩
  · have h1 : (if (1048576 : Nat) < n then (-1 : Int) else ((1048576 - n : Nat) : Int)) = ((1048576 - n : Nat) : Int) := if_neg hl
    have Hsz : Hid (∀ w, Calls Tryz.prog 90 #[.slice A n c, .int .i64 1048576] w fun e w' => e = .returned (.int .i64 ((1048576 - n : Nat) : Int)) ∧ w = w') := fun w => by have := szM_any A n c 1048576 w (by omega) hmax2; rw [h1] at this; exact this
    have hnn : ¬ (((1048576 - n : Nat) : Int) < 0) := by omega
    have hb : n < 1048577 := by omega
    have hcc : (monC ms [] != monC ms []) = false := by simp
    clear h1
    have hLen := rcR_len ms
    have HS := Lib.hid (LS.start (bxs := []) HX.out (Below.refl _ _) (by simp))
    go_enter Tryz.func7, Tryz.ntmps7
    go_wp2_with fail
    refine (Hsz.out _).mono ?_
    rintro e w1 ⟨rfl, rfl⟩
    clear Hsz
    go_wp2_with fail
    refine (toM_any A n c ms _ HS.out.list Hn.out (by omega)).mono ?_
    rintro e w3 ⟨v, rfl, ho, hb1⟩
    obtain ⟨A1, c2, hv, _⟩ := ho.form
    rw [Hn.out] at hv
    subst hv
    have Ho := Lib.hid ho
    have Hb1 := Lib.hid hb1
    clear ho hb1
    replace HS := Lib.hid (HS.out.below Hb1.out)
    clear Hb1
    go_wp2_with fail
    refine (SpecRC_any A1 n c2 ms _ Ho.out.rdA Hn.out (by omega)).mono ?_
    rintro e w4 ⟨A5, c6, rfl, hr, hb1⟩
    replace HS := Lib.hid ((HS.out.below hb1).setR hr)
    clear hb1 hr Ho
    go_wp2_with fail
    refine (toM_any A n c ms _ HS.out.list Hn.out (by omega)).mono ?_
    rintro e w9 ⟨v, rfl, ho, hb1⟩
    obtain ⟨A7, c8, hv, _⟩ := ho.form
    rw [Hn.out] at hv
    subst hv
    have Ho := Lib.hid ho
    have Hb1 := Lib.hid hb1
    clear ho hb1
    replace HS := Lib.hid (HS.out.setX Hb1.out Ho.out)
    clear Hb1 Ho
    go_wp2_with fail
    refine (ImplRC_any A7 n c8 ms _ HS.out.ox.rdA Hn.out (HS.out.ox.nilA) (by omega)).mono ?_
    rintro e w10 ⟨v, rfl, ho, hb1⟩
    obtain ⟨A11, c12, hv, _⟩ := ho.form
    subst hv
    replace HS := Lib.hid (HS.out.setG hb1 ho)
    clear hb1 ho
    go_wp2_with fail
    refine (eqI_self A11 A5 (rcR ms).length c12 (rcR ms).length c6 (rcR ms) _ rfl rfl (show OwI 2 _ _ _ _ from HS.out.og).rdA HS.out.res (by have := hLen; omega)).mono ?_
    rintro e w13 ⟨rfl, hb1⟩
    replace HS := Lib.hid (HS.out.below hb1)
    clear hb1
    go_wp2_with fail
    refine (toM_any A n c ms _ HS.out.list Hn.out (by omega)).mono ?_
    rintro e w16 ⟨v, rfl, ho, hb1⟩
    obtain ⟨A14, c15, hv, _⟩ := ho.form
    rw [Hn.out] at hv
    subst hv
    have Ho := Lib.hid ho
    have Hb1 := Lib.hid hb1
    clear ho hb1
    replace HS := Lib.hid (HS.out.below Hb1.out)
    clear Hb1
    go_wp2_with fail
    refine (eqM_same A7 A14 n c8 c15 ms _ Hn.out HS.out.ox.rdA Ho.out.rdA (by omega)).mono ?_
    rintro e w17 ⟨rfl, hb1⟩
    replace HS := Lib.hid (HS.out.below hb1)
    clear hb1 Ho
    go_wp2_with fail
    refine (markM_any (.slice A7 n c8) _ ms 1 _ HS.out.ox (by omega) (by have := Hn.out; omega)).mono ?_
    rintro e w18 ⟨rfl, ho, hg⟩
    rw [Hn.out]
    replace HS := Lib.hid (HS.out.markX ho hg)
    clear ho hg
    have hk1 : ¬ ((1 : Int) + 6 * (n : Int) < 0) := by omega
    go_wp2_with fail
    refine (eqI_self A11 A5 (rcR ms).length c12 (rcR ms).length c6 (rcR ms) _ rfl rfl (show OwI 2 _ _ _ _ from HS.out.og).rdA HS.out.res (by have := hLen; omega)).mono ?_
    rintro e w19 ⟨rfl, hb1⟩
    replace HS := Lib.hid (HS.out.below hb1)
    clear hb1
    clear hk1
    go_wp2_with fail
    refine (markI_any (.slice A11 (rcR ms).length c12) _ (rcR ms) 1 _ HS.out.og (by omega) (by have := hLen; omega)).mono ?_
    rintro e w20 ⟨rfl, ho, hg⟩
    have hml := marks_length (rcR ms).length 1
    unfold OwI at ho
    rw [hml] at ho
    replace HS := Lib.hid (HS.out.markG ho hg)
    clear ho hg
    have hm1 : ¬ ((1 : Int) + ((rcR ms).length : Int) < 0) := by omega
    have Hml := Lib.hid hml
    clear hml
    go_wp2_with fail
    have hml := Hml.out
    refine (heldI_any A11 (rcR ms).length c12 1 _ ((show OwI 2 _ _ (.slice A11 (rcR ms).length c12) (marks (rcR ms).length 1) from (by unfold OwI; rw [hml]; exact HS.out.og))).rdA (by omega) (by have := hLen; omega)).mono ?_
    rintro e w21 ⟨rfl, rfl⟩
    clear hml
    go_wp2_with fail
    refine (toM_any A n c ms _ HS.out.list Hn.out (by omega)).mono ?_
    rintro e w24 ⟨v, rfl, ho, hb1⟩
    obtain ⟨A22, c23, hv, _⟩ := ho.form
    rw [Hn.out] at hv
    subst hv
    have Ho := Lib.hid ho
    have Hb1 := Lib.hid hb1
    clear ho hb1
    replace HS := Lib.hid (HS.out.below Hb1.out)
    clear Hb1
    go_wp2_with fail
    refine (ImplRC_any A22 n c23 ms _ Ho.out.rdA Hn.out (Ho.out.nilA) (by omega)).mono ?_
    rintro e w25 ⟨v, rfl, ho, hb1⟩
    obtain ⟨A26, c27, hv, hr⟩ := ho.form
    subst hv
    replace HS := Lib.hid (HS.out.below hb1)
    have Hr := Lib.hid hr
    clear hb1 ho Ho hr
    go_wp2_with fail
    refine (eqI_self A26 A5 (rcR ms).length c27 (rcR ms).length c6 (rcR ms) _ rfl rfl Hr.out HS.out.res (by have := hLen; omega)).mono ?_
    rintro e w28 ⟨rfl, hb1⟩
    replace HS := Lib.hid (HS.out.below hb1)
    clear hb1
    clear Hr
    have hml := Hml.out
    have Hml := Lib.hid hml
    clear hml
    go_wp2_with fail
    have hml := Hml.out
    refine (heldI_any A11 (rcR ms).length c12 1 _ ((show OwI 2 _ _ (.slice A11 (rcR ms).length c12) (marks (rcR ms).length 1) from (by unfold OwI; rw [hml]; exact HS.out.og))).rdA (by omega) (by have := hLen; omega)).mono ?_
    rintro e w29 ⟨rfl, rfl⟩
    clear hml
    go_wp2
    go_ret
    exact ⟨rfl, HS.out.bel⟩
end Go.Proofs.YtkbfocoaobiijaaGreat
