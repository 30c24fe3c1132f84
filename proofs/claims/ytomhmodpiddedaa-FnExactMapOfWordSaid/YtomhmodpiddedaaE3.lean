/- Contracts of the maps of words; the lists are as each theorem states. -/
import Derived.Test.YtomhmodpiddedaaE2
import Derived.Test.YtomhmodpiddedaaC9
namespace Go.Proofs.Ytomhmodpiddedaa
open Go.RowKit
set_option maxRecDepth 100000

theorem prd_take {gens : List M} {n : Int} {us : List Int} {k : Nat} (hk : k < us.length) : prd gens n (us.take (k + 1)) = mul (prd gens n (us.take k)) (gm gens (gi us k).toNat) := by
  rw [List.take_add_one, List.getElem?_eq_getElem hk, gi_eq hk]
  exact prd_snoc _ _
theorem prd_ok {gens : List M} {n : Int} (h1 : 1 ≤ n) (h5 : n ≤ 5) (hG : Pts n gens) {us : List Int} (hu : ∀ j, j < us.length → inR (gi us j) 0 ((gens.length : Int) - 1) = true) : ∀ k, k ≤ us.length → Valid (prd gens n (us.take k)) ∧ (prd gens n (us.take k)).p = n
  | 0, _ => ⟨Valid.one h1 h5, rfl⟩
  | k + 1, h => by
    have ih := prd_ok h1 h5 hG hu k (by omega)
    have hr := inR_true.1 (hu k (by omega))
    have hm : gm gens (gi us k).toNat ∈ gens := by rw [gm_eq (by omega)]; exact List.getElem_mem _
    rw [prd_take (by omega)]
    exact ⟨Valid.mul ih.1 (hG _ hm).1 (by rw [ih.2, (hG _ hm).2]), ih.2⟩
theorem codeL_pts {ms xs : List M} (h : codeL ms xs = 0) : 1 ≤ (gm ms 0).p ∧ (gm ms 0).p ≤ 5 ∧ Pts (gm ms 0).p ms ∧ Pts (gm ms 0).p xs ∧ 1 ≤ ms.length ∧ ms.length ≤ 6 := by
  obtain ⟨h1, h2, h3⟩ := codeL_zero.1 h
  have h4 := inR_true.1 h2
  rw [List.all_eq_true] at h1 h3
  have key : ∀ f, f ∈ ms ++ xs → Valid f ∧ f.p = (gm ms 0).p := fun f hf => ⟨(isMap_iff f).1 (h1 f hf), of_decide_eq_true (h3 f hf)⟩
  have h0 : gm ms 0 ∈ ms := by rw [gm_eq (by omega)]; exact List.getElem_mem _
  have hv := (key _ (List.mem_append_left _ h0)).1
  exact ⟨hv.p1, hv.p5, fun f hf => key f (List.mem_append_left _ hf), fun f hf => key f (List.mem_append_right _ hf), by omega, by omega⟩

theorem mapOf_any (A A2 : Option Addr) (n c m d : Nat) (ms : List M) (us : List Int) (w : World) (hx : RdM w w.heap.size A ms) (hy : RdI w w.heap.size A2 us) (hn : ms.length = n) (hm : us.length = m) (hn1 : 1 ≤ n) (hb : n < 1073741824) (hbm : m < 1073741824)
    (h1 : 1 ≤ (gm ms 0).p) (h5 : (gm ms 0).p ≤ 5) (hG : Pts (gm ms 0).p ms) (hu : ∀ j, j < us.length → inR (gi us j) 0 ((ms.length : Int) - 1) = true) :
    Calls Try.prog 81 #[.slice A n c, .slice A2 m d] w fun e w' => e = .returned (.agg (mc (prd ms (gm ms 0).p us))) ∧ Below w.heap.size w w' := by
  have Hn := Lib.hid hn
  have Hm := Lib.hid hm
  have Hx := Lib.hid hx
  have Hy := Lib.hid hy
  have HG := Lib.hid hG
  have Hu := Lib.hid hu
  obtain ⟨b, off, rfl, hbb, s0⟩ := hx.at_ (k := 0) (by omega)
  have c0 := s0.1
  have hpos : (0 : Int) < (n : Int) := by omega
  have hpos' : 0 < n := by omega
  simp only [Nat.zero_mul, Nat.add_zero] at c0
  have Hok := Lib.hid (prd_ok h1 h5 hG hu)
  clear hn hm hx hy hG hu s0
  go_enter Try.func81, Try.ntmps81
  go_wp2_with fail
  refine (identity_any (gm ms 0).p _ h1 h5).mono ?_
  rintro e w1 ⟨rfl, hb1⟩
  have hB0 : Blk w1 w.heap.size 28 (mc M0) := Blk.below (Blk.new w _ _) hb1 (by simp)
  have hbel : Below w.heap.size w w1 := Below.trans (by (repeat (first | with_reducible assumption | with_reducible exact Below.refl _ _ | with_reducible refine Below.setCell ?_ (by first | omega | (simp <;> omega)) _ | with_reducible refine Below.alloc ?_ (by first | omega | (simp <;> omega)) _ | with_reducible refine Below.drew ?_ | with_reducible refine Below.drewN ?_ _))) (hb1.mono (by simp))
  have hlt0 := hB0.lt
  clear hb1
  go_wp2_with fail
  go_loopw [15] (fun i wr => ∃ k : Nat, k ≤ m ∧ i = .int .i64 k ∧ Blk wr w.heap.size 28 (mc M0) ∧ Blk wr w1.heap.size 28 (mc (prd ms (gm ms 0).p (us.take k))) ∧ Below w.heap.size w wr) (fun i _ => m - (intOf i).toNat)
  case atStart => exact ⟨0, by omega, rfl, hB0.alloc _, Blk.new _ _ _, hbel.alloc hbel.size _⟩
  case round =>
    clear hB0 hbel
    obtain ⟨k, hk, rfl, hB0, hB1, hbel⟩ := hrel
    by_cases hlt : k < m
    · obtain ⟨b2, off2, rfl, hbb2, d0⟩ := RdI.at_ (Rd.below Hy.out hbel) (k := k) (by rw [Hm.out]; exact hlt)
      have hr := inR_true.1 (Hu.out k (by rw [Hm.out]; exact hlt))
      rw [Hn.out] at hr
      have hr1 := hr.1
      have hr2 : gi us k < (n : Int) := by omega
      obtain ⟨b3, off3, he, _, s3⟩ := RdM.at_ (Rd.below Hx.out hbel) (k := (gi us k).toNat) (by rw [Hn.out]; omega)
      injection he with he
      injection he with e1 e2 _
      subst e1 e2
      obtain ⟨hv, _⟩ := Hok.out k (by rw [Hm.out]; exact hk)
      have Hp : Hid (prd ms (gm ms 0).p (us.take (k + 1)) = mul (prd ms (gm ms 0).p (us.take k)) (gm ms (gi us k).toNat)) := prd_take (by rw [Hm.out]; exact hlt)
      obtain ⟨f, hf⟩ : ∃ f, f = prd ms (gm ms 0).p (us.take k) := ⟨_, rfl⟩
      rw [← hf] at hB1 hv Hp
      have hlt1 := hB1.lt
      have HS : Hid (Six wr.drew w1.heap.size f ∧ SixAt wr.drew b (off + (gi us k).toNat * 6) (gm ms (gi us k).toNat) ∧ Blk wr.drew w.heap.size 28 (mc M0) ∧ Blk wr.drew w1.heap.size 28 (mc f) ∧ Below w.heap.size w wr.drew) := ⟨hB1.six, s3, hB0, hB1, hbel.drew⟩
      clear hB0 hB1 hbel s3 c0 hf
      go_wp2_with fail
      refine wp_region_last [] rfl (by kernel_rfl) (by kernel_rfl) (by kernel_rfl) (by kernel_rfl)
        (fun w' => Six w' w1.heap.size f ∧ SixAt w' b (off + (gi us k).toNat * 6) (gm ms (gi us k).toNat) ∧ Blk w' w.heap.size 28 (mc M0) ∧ Blk w' w1.heap.size 28 (mc f) ∧ Below w.heap.size w w')
        (fun w' => Blk w' w.heap.size 28 (mc M0) ∧ Blk w' w1.heap.size 28 (mc (mul f (gm ms (gi us k).toNat))) ∧ Below w.heap.size w w') _
        [.agg (mc f), .slice (some ⟨b, off, none⟩) n c, I (gi us k), .pointer (some ⟨b, off + (gi us k).toNat * 6, none⟩), .agg (mc (gm ms (gi us k).toNat)), .agg (mc (mul f (gm ms (gi us k).toNat))), undef]
        (by simp only [putAll, List.setIfInBounds_toArray, List.set_cons_succ, List.set_cons_zero]; rfl) HS.out 6 _ rfl rfl ?hop ?hst ?hQ
      case hop =>
        refine FixBL.toL (fun w' w'' hS hb => ⟨hS.1.below hb hS.1.lt, hS.2.1.below hb hS.2.1.lt, hS.2.2.1.below hb hS.2.2.1.lt, hS.2.2.2.1.below hb hS.2.2.2.1.lt, hS.2.2.2.2.trans (hb.mono hS.2.2.2.2.size)⟩) _ _ ?_
        refine ⟨.inr ?_, .inr ?_, .inr ?_, .inr ?_, .inr ?_, .inr ?_, .inl rfl, trivial⟩
        · (with_reducible refine FixB.of ?_ ?_; rfl; intro w' hS; have s0 := hS.1; have s1 := hS.2.1; clear hS; unfold Oper.wp; go_simp; first | done | exact Below.refl _ _)
        · (with_reducible refine FixB.of ?_ ?_; rfl; intro w' hS; have s0 := hS.1; have s1 := hS.2.1; clear hS; unfold Oper.wp; go_simp; first | done | exact Below.refl _ _)
        · (with_reducible refine FixB.of ?_ ?_; rfl; intro w' hS; have s0 := hS.1; have s1 := hS.2.1; clear hS; unfold Oper.wp; go_simp; first | done | exact Below.refl _ _)
        · (with_reducible refine FixB.of ?_ ?_; rfl; intro w' hS; have s0 := hS.1; have s1 := hS.2.1; clear hS; unfold Oper.wp; go_simp; first | done | exact Below.refl _ _)
        · (with_reducible refine FixB.of ?_ ?_; rfl; intro w' hS; have s0 := hS.1; have s1 := hS.2.1; clear hS; unfold Oper.wp; go_simp; first | done | exact Below.refl _ _)
        · (with_reducible refine FixB.of ?_ ?_; rfl; intro w' hS; have s3 := Lib.hid hS; unfold Oper.wp; clear hS; go_simp; refine (times_any f (gm ms (gi us k).toNat) _ hv).mono ?_; rintro e w1 ⟨rfl, hb⟩; exact ⟨rfl, hb⟩)
      case hst =>
        refine ⟨rfl, fun w' hS => ?_⟩
        have s3 := Lib.hid hS
        have d := hS.2.2.2.1.six
        have z := hS.2.2.2.1.fr6
        clear hS
        unfold Oper.wp
        go_simp
        exact ⟨s3.out.2.2.1.far6 (by omega) _, s3.out.2.2.2.1.st6 _, below_st6 s3.out.2.2.2.2 (by omega) _⟩
      case hQ =>
        intro w' hS
        have Hs := Lib.hid hS
        rw [← Hp.out] at Hs
        clear hS HS
        go_wp2
        go_roundw
        case rel => exact ⟨k + 1, by omega, by go_num, Hs.out.1, Hs.out.2.1, Hs.out.2.2⟩
        case measure => simp [intOf]; omega
    · obtain rfl : k = m := by omega
      have e : us.take k = us := by rw [← Hm.out, List.take_length]
      rw [e] at hB1
      obtain ⟨d0, d1, d2, d3, d4, d5⟩ := hB1.six
      obtain ⟨e0, e1, e2, e3, e4, e5⟩ := hB0.six
      obtain ⟨z0, z1, z2, z3, z4, z5⟩ := hB0.fr6
      go_wp2
      refine bodyPost_ret (v := .agg (mc (prd ms (gm ms 0).p us))) ?_ rfl ⟨rfl, below_st6 hbel (Nat.le_refl _) _⟩
      simp [results, Try.results81, go_sem, *]

def mwR (ms : List M) (us : List Int) : M := if codeL ms [] = 0 then (if wordB ms.length us then prd ms (gm ms 0).p us else M0) else M0
def mwC (ms : List M) (us : List Int) : Int := if codeL ms [] = 0 then (if wordB ms.length us then 0 else 2) else codeL ms []
theorem mw_bad {ms : List M} {us : List Int} (h : codeL ms [] ≠ 0) : mwR ms us = M0 ∧ mwC ms us = codeL ms [] := by simp [mwR, mwC, h]
theorem mw_rng {ms : List M} {us : List Int} (h : codeL ms [] = 0) (hw : wordB ms.length us = false) : mwR ms us = M0 ∧ mwC ms us = 2 := by simp [mwR, mwC, h, hw]
theorem mw_good {ms : List M} {us : List Int} (h : codeL ms [] = 0) (hw : wordB ms.length us = true) : mwR ms us = prd ms (gm ms 0).p us ∧ mwC ms us = 0 := by simp [mwR, mwC, h, hw]

theorem ImplMapOfWord_any (A A2 : Option Addr) (n c m d : Nat) (ms : List M) (us : List Int) (w : World) (hx : RdM w w.heap.size A ms) (hy : RdI w w.heap.size A2 us) (hn : ms.length = n) (hm : us.length = m) (hA : A = none → n = 0 ∧ c = 0) (hb : n < 1073741824) (hbm : m < 1073741824) :
    Calls Try.prog 30 #[.slice A n c, .slice A2 m d] w fun e w' => e = .returned (.tuple #[.agg (mc (mwR ms us)), I (mwC ms us)]) ∧ Below w.heap.size w w' := by
  have Hn := Lib.hid hn
  have Hm := Lib.hid hm
  have Hx := Lib.hid hx
  have Hy := Lib.hid hy
  have HA := Lib.hid hA
  clear hn hm hx hy hA
  by_cases hc : codeL ms [] = 0
  · have hcb : (codeL ms [] != 0) = false := by simp [hc]
    obtain ⟨q1, q2, q3, _, q5, q6⟩ := codeL_pts hc
    have Q3 := Lib.hid q3
    have Hc := Lib.hid hc
    clear hc q3
    cases hw : wordB ms.length us
    · have Hr := Lib.hid (mw_rng Hc.out hw)
      have Hw := Lib.hid hw
      clear hw
      go_enter Try.func30, Try.ntmps30
      go_wp2_with fail
      refine (listCode_any A none n c 0 0 ms [] _ (Rd.more (Rd.alloc Hx.out (Nat.le_refl _) _) (by simp)) Rd.nil_ Hn.out rfl HA.out (fun _ => ⟨rfl, rfl⟩) (by omega)).mono ?_
      rintro e w1 ⟨rfl, hb1⟩
      have hB : Blk w1 w.heap.size 28 (mc M0) := Blk.below (Blk.new w _ _) hb1 (by simp)
      have hbel : Below w.heap.size w w1 := Below.trans (by (repeat (first | with_reducible assumption | with_reducible exact Below.refl _ _ | with_reducible refine Below.setCell ?_ (by first | omega | (simp <;> omega)) _ | with_reducible refine Below.alloc ?_ (by first | omega | (simp <;> omega)) _ | with_reducible refine Below.drew ?_ | with_reducible refine Below.drewN ?_ _))) (hb1.mono (by simp))
      clear hb1
      go_wp2_with fail
      refine (isWord_any A A2 n c m d us _ (Rd.more (Rd.below Hy.out hbel) hbel.size) Hm.out hb hbm).mono ?_
      rintro e w2 ⟨rfl, hb2⟩
      rw [← Hn.out, Hw.out]
      replace hB := hB.below hb2 hB.lt
      replace hbel := hbel.trans (hb2.mono hbel.size)
      clear hb2
      obtain ⟨e0, e1, e2, e3, e4, e5⟩ := hB.six
      obtain ⟨z0, z1, z2, z3, z4, z5⟩ := hB.fr6
      go_wp2
      refine bodyPost_ret (v := .tuple #[.agg (mc M0), I 2]) ?_ rfl ⟨by rw [Hr.out.1, Hr.out.2], by (repeat (first | with_reducible assumption | with_reducible exact Below.refl _ _ | with_reducible refine Below.setCell ?_ (by first | omega | (simp <;> omega)) _ | with_reducible refine Below.alloc ?_ (by first | omega | (simp <;> omega)) _ | with_reducible refine Below.drew ?_ | with_reducible refine Below.drewN ?_ _))⟩
      simp [results, Try.results30, go_sem, *]
      try exact ⟨rfl, rfl, rfl, rfl, rfl, rfl⟩
    · have Hr := Lib.hid (mw_good Hc.out hw)
      have Hw := Lib.hid hw
      have Hu := Lib.hid (wordB_iff.1 hw).2
      clear hw
      go_enter Try.func30, Try.ntmps30
      go_wp2_with fail
      refine (listCode_any A none n c 0 0 ms [] _ (Rd.more (Rd.alloc Hx.out (Nat.le_refl _) _) (by simp)) Rd.nil_ Hn.out rfl HA.out (fun _ => ⟨rfl, rfl⟩) (by omega)).mono ?_
      rintro e w1 ⟨rfl, hb1⟩
      have hB : Blk w1 w.heap.size 28 (mc M0) := Blk.below (Blk.new w _ _) hb1 (by simp)
      have hbel : Below w.heap.size w w1 := Below.trans (by (repeat (first | with_reducible assumption | with_reducible exact Below.refl _ _ | with_reducible refine Below.setCell ?_ (by first | omega | (simp <;> omega)) _ | with_reducible refine Below.alloc ?_ (by first | omega | (simp <;> omega)) _ | with_reducible refine Below.drew ?_ | with_reducible refine Below.drewN ?_ _))) (hb1.mono (by simp))
      clear hb1
      go_wp2_with fail
      refine (isWord_any A A2 n c m d us _ (Rd.more (Rd.below Hy.out hbel) hbel.size) Hm.out hb hbm).mono ?_
      rintro e w2 ⟨rfl, hb2⟩
      rw [← Hn.out, Hw.out]
      replace hB := hB.below hb2 hB.lt
      replace hbel := hbel.trans (hb2.mono hbel.size)
      clear hb2
      rw [Hn.out]
      go_wp2_with fail
      refine (mapOf_any A A2 n c m d ms us _ (Rd.more (Rd.below Hx.out hbel) hbel.size) (Rd.more (Rd.below Hy.out hbel) hbel.size) Hn.out Hm.out (by have := Hn.out; omega) hb hbm q1 q2 Q3.out Hu.out).mono ?_
      rintro e w3 ⟨rfl, hb2⟩
      replace hB := hB.below hb2 hB.lt
      replace hbel := hbel.trans (hb2.mono hbel.size)
      clear hb2
      obtain ⟨e0, e1, e2, e3, e4, e5⟩ := hB.six
      obtain ⟨z0, z1, z2, z3, z4, z5⟩ := hB.fr6
      go_wp2
      refine bodyPost_ret (v := .tuple #[.agg (mc (prd ms (gm ms 0).p us)), I 0]) ?_ rfl ⟨by rw [Hr.out.1, Hr.out.2], by (repeat (first | with_reducible assumption | with_reducible exact Below.refl _ _ | with_reducible refine Below.setCell ?_ (by first | omega | (simp <;> omega)) _ | with_reducible refine Below.alloc ?_ (by first | omega | (simp <;> omega)) _ | with_reducible refine Below.drew ?_ | with_reducible refine Below.drewN ?_ _))⟩
      simp [results, Try.results30, go_sem, *]
  · have hcb : (codeL ms [] != 0) = true := by simp [hc]
    have Hr := Lib.hid (mw_bad (us := us) hc)
    clear hc
    go_enter Try.func30, Try.ntmps30
    go_wp2_with fail
    refine (listCode_any A none n c 0 0 ms [] _ (Rd.more (Rd.alloc Hx.out (Nat.le_refl _) _) (by simp)) Rd.nil_ Hn.out rfl HA.out (fun _ => ⟨rfl, rfl⟩) (by omega)).mono ?_
    rintro e w1 ⟨rfl, hb1⟩
    have hB : Blk w1 w.heap.size 28 (mc M0) := Blk.below (Blk.new w _ _) hb1 (by simp)
    have hbel : Below w.heap.size w w1 := Below.trans (by (repeat (first | with_reducible assumption | with_reducible exact Below.refl _ _ | with_reducible refine Below.setCell ?_ (by first | omega | (simp <;> omega)) _ | with_reducible refine Below.alloc ?_ (by first | omega | (simp <;> omega)) _ | with_reducible refine Below.drew ?_ | with_reducible refine Below.drewN ?_ _))) (hb1.mono (by simp))
    clear hb1
    obtain ⟨e0, e1, e2, e3, e4, e5⟩ := hB.six
    obtain ⟨z0, z1, z2, z3, z4, z5⟩ := hB.fr6
    go_wp2
    refine bodyPost_ret (v := .tuple #[.agg (mc M0), I (codeL ms [])]) ?_ rfl ⟨by rw [Hr.out.1, Hr.out.2], by (repeat (first | with_reducible assumption | with_reducible exact Below.refl _ _ | with_reducible refine Below.setCell ?_ (by first | omega | (simp <;> omega)) _ | with_reducible refine Below.alloc ?_ (by first | omega | (simp <;> omega)) _ | with_reducible refine Below.drew ?_ | with_reducible refine Below.drewN ?_ _))⟩
    simp [results, Try.results30, go_sem, *]
    try exact ⟨rfl, rfl, rfl, rfl, rfl, rfl⟩

theorem wordB_no {n : Nat} {us : List Int} {k : Nat} (hk : k < us.length) (h : inR (gi us k) 0 ((n : Int) - 1) = false) : wordB n us = false := by
  rw [Bool.eq_false_iff]
  intro ht
  have := (wordB_iff.1 ht).2 k hk
  rw [h] at this; cases this

theorem SpecMapOfWord_any (A A2 : Option Addr) (n c m d : Nat) (ms : List M) (us : List Int) (w : World) (hx : RdM w w.heap.size A ms) (hy : RdI w w.heap.size A2 us) (hn : ms.length = n) (hm : us.length = m) (hb : n < 1073741824) (hbm : m < 1073741824) :
    Calls Try.prog 28 #[.slice A n c, .slice A2 m d] w fun e w' => e = .returned (.tuple #[.agg (mc (mwR ms us)), I (mwC ms us)]) ∧ Below w.heap.size w w' := by
  have Hn := Lib.hid hn
  have Hm := Lib.hid hm
  have Hx := Lib.hid hx
  have Hy := Lib.hid hy
  clear hn hm hx hy
  by_cases hc : codeL ms [] = 0
  · have hcb : (codeL ms [] != 0) = false := by simp [hc]
    obtain ⟨q1, q2, q3, _, q5, q6⟩ := codeL_pts hc
    have Q3 := Lib.hid q3
    have Hc := Lib.hid hc
    clear hc q3
    by_cases h100 : m ≤ 100
    · have hle : ¬ (100 : Int) < (m : Int) := by omega
      have hn1 : 1 ≤ n := by rw [← Hn.out]; exact q5
      have hpos : (0 : Int) < (n : Int) := by omega
      have hpos' : 0 < n := by omega
      have hwn : IntKind.i64.wrap ((n : Int) - 1) = (n : Int) - 1 := IntWalk.i64_in _ ⟨by omega, by omega⟩
      obtain ⟨b, off, rfl, hbb, s0⟩ := Hx.out.at_ (k := 0) (by rw [Hn.out]; omega)
      have c0 := s0.1
      simp only [Nat.zero_mul, Nat.add_zero] at c0
      clear s0
      go_enter Try.func28, Try.ntmps28
      go_wp2_with fail
      refine (l02Given_any (some ⟨b, off, none⟩) none n c 0 0 ms [] _ (Rd.more (Rd.alloc Hx.out (Nat.le_refl _) _) (by simp)) Rd.nil_ Hn.out rfl hb (by omega)).mono ?_
      rintro e w1 ⟨rfl, hb1⟩
      have hB : Blk w1 w.heap.size 28 (mc M0) := Blk.below (Blk.new w _ _) hb1 (by simp)
      have hbel : Below w.heap.size w w1 := Below.trans (by (repeat (first | with_reducible assumption | with_reducible exact Below.refl _ _ | with_reducible refine Below.setCell ?_ (by first | omega | (simp <;> omega)) _ | with_reducible refine Below.alloc ?_ (by first | omega | (simp <;> omega)) _ | with_reducible refine Below.drew ?_ | with_reducible refine Below.drewN ?_ _))) (hb1.mono (by simp))
      have d0 := (hbel.cell (p := ⟨b, off, none⟩) hbb).trans c0
      clear hb1
      go_wp2_with fail
      refine (l01Identity_any (gm ms 0).p _ q1 q2).mono ?_
      rintro e w2 ⟨rfl, hb2⟩
      replace hB := hB.below hb2 hB.lt
      replace hbel := hbel.trans (hb2.mono hbel.size)
      have hlt0 := hB.lt
      clear hb2 d0
      go_wp2_with fail
      go_loopw [8] (fun i wr => ∃ k : Nat, k ≤ m ∧ i = .int .i64 k ∧ Hid (∀ j, j < k → inR (gi us j) 0 ((n : Int) - 1) = true) ∧ Blk wr w.heap.size 28 (mc M0) ∧ Blk wr w2.heap.size 28 (mc (prd ms (gm ms 0).p (us.take k))) ∧ Below w.heap.size w wr) (fun i _ => m - (intOf i).toNat)
      case atStart => exact ⟨0, by omega, rfl, fun j hj => absurd hj (by omega), hB.alloc _, Blk.new _ _ _, hbel.alloc hbel.size _⟩
      case round =>
        clear hB hbel
        obtain ⟨k, hk, rfl, hg, hB0, hB1, hbel⟩ := hrel
        by_cases hlt : k < m
        · obtain ⟨b2, off2, rfl, hbb2, e0⟩ := RdI.at_ (Rd.below Hy.out hbel) (k := k) (by rw [Hm.out]; exact hlt)
          cases hin : inR (gi us k) 0 ((n : Int) - 1)
          · have Hr := Lib.hid (mw_rng Hc.out (wordB_no (k := k) (by rw [Hm.out]; exact hlt) (by rw [Hn.out]; exact hin)))
            obtain ⟨y0, y1, y2, y3, y4, y5⟩ := hB0.six
            obtain ⟨z0, z1, z2, z3, z4, z5⟩ := hB0.fr6
            clear hB1 hB0
            go_wp2_with fail
            refine (l01In_any _ _ _ _).mono ?_
            rintro e w3 ⟨rfl, rfl⟩
            rw [hin]
            go_wp2
            refine bodyPost_ret (v := .tuple #[.agg (mc M0), I 2]) ?_ rfl ⟨by rw [Hr.out.1, Hr.out.2], by (repeat (first | with_reducible assumption | with_reducible exact Below.refl _ _ | with_reducible refine Below.setCell ?_ (by first | omega | (simp <;> omega)) _ | with_reducible refine Below.alloc ?_ (by first | omega | (simp <;> omega)) _ | with_reducible refine Below.drew ?_ | with_reducible refine Below.drewN ?_ _))⟩
            simp [results, Try.results28, go_sem, *]
            try exact ⟨rfl, rfl, rfl, rfl, rfl, rfl⟩
          · have Hs : Hid (∀ j, j < k + 1 → inR (gi us j) 0 ((n : Int) - 1) = true) := by
              intro j hj
              by_cases e : j = k
              · subst e; exact hin
              · exact hg.out j (by omega)
            have hr := inR_true.1 hin
            have hr1 := hr.1
            have hr2 : gi us k < (n : Int) := by omega
            obtain ⟨b3, off3, he, _, s3⟩ := RdM.at_ (Rd.below Hx.out hbel) (k := (gi us k).toNat) (by rw [Hn.out]; omega)
            injection he with he
            injection he with e1 e2 _
            subst e1 e2
            have hv : Valid (prd ms (gm ms 0).p (us.take k)) := by
              have hl : (us.take k).length = k := by rw [List.length_take, Hm.out]; omega
              have h2 := (prd_ok (us := us.take k) q1 q2 Q3.out (fun j hj => by
                rw [hl] at hj
                have := hg.out j hj
                rw [Hn.out]
                rw [gi_eq (by rw [hl]; exact hj), List.getElem_take, ← gi_eq (by rw [Hm.out]; omega)]
                exact this) k (by omega)).1
              rwa [List.take_of_length_le (by omega)] at h2
            have Hp : Hid (prd ms (gm ms 0).p (us.take (k + 1)) = mul (prd ms (gm ms 0).p (us.take k)) (gm ms (gi us k).toNat)) := prd_take (by rw [Hm.out]; exact hlt)
            obtain ⟨f, hf⟩ : ∃ f, f = prd ms (gm ms 0).p (us.take k) := ⟨_, rfl⟩
            rw [← hf] at hB1 hv Hp
            have hlt1 := hB1.lt
            have i0 : (0 : Int) ≤ (k : Int) := by omega
            have i1 : (k : Int) < (m : Int) := by omega
            go_wp2_with fail
            refine (l01In_any _ _ _ _).mono ?_
            rintro e w3 ⟨rfl, rfl⟩
            rw [hin]
            have HS : Hid (Six wr.drew w2.heap.size f ∧ SixAt wr.drew b (off + (gi us k).toNat * 6) (gm ms (gi us k).toNat) ∧ wr.drew.cell? ⟨b2, off2 + k, none⟩ = some (I (gi us k)) ∧ Blk wr.drew w.heap.size 28 (mc M0) ∧ Blk wr.drew w2.heap.size 28 (mc f) ∧ Below w.heap.size w wr.drew) := ⟨hB1.six, s3, e0, hB0, hB1, hbel.drew⟩
            clear hB0 hB1 hbel s3 c0 hf e0
            go_wp2_with fail
            refine wp_region_last [] rfl (by kernel_rfl) (by kernel_rfl) (by kernel_rfl) (by kernel_rfl)
              (fun w' => Six w' w2.heap.size f ∧ SixAt w' b (off + (gi us k).toNat * 6) (gm ms (gi us k).toNat) ∧ w'.cell? ⟨b2, off2 + k, none⟩ = some (I (gi us k)) ∧ Blk w' w.heap.size 28 (mc M0) ∧ Blk w' w2.heap.size 28 (mc f) ∧ Below w.heap.size w w')
              (fun w' => Blk w' w.heap.size 28 (mc M0) ∧ Blk w' w2.heap.size 28 (mc (mul f (gm ms (gi us k).toNat))) ∧ Below w.heap.size w w') _
              [.agg (mc f), .slice (some ⟨b, off, none⟩) n c, .slice (some ⟨b2, off2, none⟩) m d, I k, .pointer (some ⟨b2, off2 + k, none⟩), I (gi us k), .pointer (some ⟨b, off + (gi us k).toNat * 6, none⟩), .agg (mc (gm ms (gi us k).toNat)), .agg (mc (mul f (gm ms (gi us k).toNat))), undef]
              (by simp only [putAll, List.setIfInBounds_toArray, List.set_cons_succ, List.set_cons_zero]; rfl) HS.out 9 _ rfl rfl ?hop ?hst ?hQ
            case hop =>
              refine FixBL.toL (fun w' w'' hS hb => ⟨hS.1.below hb hS.1.lt, hS.2.1.below hb hS.2.1.lt, (hb.cell (p := ⟨b2, off2 + k, none⟩) (show b2 < w'.heap.size by have := hS.2.2.2.2.2.size; omega)).trans hS.2.2.1, hS.2.2.2.1.below hb hS.2.2.2.1.lt, hS.2.2.2.2.1.below hb hS.2.2.2.2.1.lt, hS.2.2.2.2.2.trans (hb.mono hS.2.2.2.2.2.size)⟩) _ _ ?_
              refine ⟨.inr ?_, .inr ?_, .inr ?_, .inr ?_, .inr ?_, .inr ?_, .inr ?_, .inr ?_, .inr ?_, .inl rfl, trivial⟩
              · (with_reducible refine FixB.of ?_ ?_; rfl; intro w' hS; have s0 := hS.1; have s1 := hS.2.1; have s2 := hS.2.2.1; clear hS; unfold Oper.wp; go_simp; first | done | exact Below.refl _ _)
              · (with_reducible refine FixB.of ?_ ?_; rfl; intro w' hS; have s0 := hS.1; have s1 := hS.2.1; have s2 := hS.2.2.1; clear hS; unfold Oper.wp; go_simp; first | done | exact Below.refl _ _)
              · (with_reducible refine FixB.of ?_ ?_; rfl; intro w' hS; have s0 := hS.1; have s1 := hS.2.1; have s2 := hS.2.2.1; clear hS; unfold Oper.wp; go_simp; first | done | exact Below.refl _ _)
              · (with_reducible refine FixB.of ?_ ?_; rfl; intro w' hS; have s0 := hS.1; have s1 := hS.2.1; have s2 := hS.2.2.1; clear hS; unfold Oper.wp; go_simp; first | done | exact Below.refl _ _)
              · (with_reducible refine FixB.of ?_ ?_; rfl; intro w' hS; have s0 := hS.1; have s1 := hS.2.1; have s2 := hS.2.2.1; clear hS; unfold Oper.wp; go_simp; first | done | exact Below.refl _ _)
              · (with_reducible refine FixB.of ?_ ?_; rfl; intro w' hS; have s0 := hS.1; have s1 := hS.2.1; have s2 := hS.2.2.1; clear hS; unfold Oper.wp; go_simp; first | done | exact Below.refl _ _)
              · (with_reducible refine FixB.of ?_ ?_; rfl; intro w' hS; have s0 := hS.1; have s1 := hS.2.1; have s2 := hS.2.2.1; clear hS; unfold Oper.wp; go_simp; first | done | exact Below.refl _ _)
              · (with_reducible refine FixB.of ?_ ?_; rfl; intro w' hS; have s0 := hS.1; have s1 := hS.2.1; have s2 := hS.2.2.1; clear hS; unfold Oper.wp; go_simp; first | done | exact Below.refl _ _)
              · (with_reducible refine FixB.of ?_ ?_; rfl; intro w' hS; have s3 := Lib.hid hS; unfold Oper.wp; clear hS; go_simp; refine (l01Times_any f (gm ms (gi us k).toNat) _ hv).mono ?_; rintro e w1 ⟨rfl, hb⟩; exact ⟨rfl, hb⟩)
            case hst =>
              refine ⟨rfl, fun w' hS => ?_⟩
              have s3 := Lib.hid hS
              have d := hS.2.2.2.2.1.six
              have z := hS.2.2.2.2.1.fr6
              clear hS
              unfold Oper.wp
              go_simp
              exact ⟨s3.out.2.2.2.1.far6 (by omega) _, s3.out.2.2.2.2.1.st6 _, below_st6 s3.out.2.2.2.2.2 (by omega) _⟩
            case hQ =>
              intro w' hS
              have Hs2 := Lib.hid hS
              rw [← Hp.out] at Hs2
              clear hS HS
              go_wp2
              go_roundw
              case rel => exact ⟨k + 1, by omega, by go_num, Hs.out, Hs2.out.1, Hs2.out.2.1, Hs2.out.2.2⟩
              case measure => simp [intOf]; omega
        · obtain rfl : k = m := by omega
          have e : us.take k = us := by rw [← Hm.out, List.take_length]
          rw [e] at hB1
          have Hr := Lib.hid (mw_good Hc.out (wordB_iff.2 ⟨by rw [Hm.out]; exact h100, fun j hj => by rw [Hn.out]; exact hg.out j (by rw [Hm.out] at hj; exact hj)⟩))
          obtain ⟨d0, d1, d2, d3, d4, d5⟩ := hB1.six
          obtain ⟨e0, e1, e2, e3, e4, e5⟩ := hB0.six
          obtain ⟨z0, z1, z2, z3, z4, z5⟩ := hB0.fr6
          go_wp2
          refine bodyPost_ret (v := .tuple #[.agg (mc (prd ms (gm ms 0).p us)), I 0]) ?_ rfl ⟨by rw [Hr.out.1, Hr.out.2], below_st6 hbel (Nat.le_refl _) _⟩
          simp [results, Try.results28, go_sem, *]
    · have hle : (100 : Int) < (m : Int) := by omega
      have Hr := Lib.hid (mw_rng (us := us) Hc.out (by
        rw [Bool.eq_false_iff]; intro ht
        have := (wordB_iff.1 ht).1
        have := Hm.out
        omega))
      go_enter Try.func28, Try.ntmps28
      go_wp2_with fail
      refine (l02Given_any A none n c 0 0 ms [] _ (Rd.more (Rd.alloc Hx.out (Nat.le_refl _) _) (by simp)) Rd.nil_ Hn.out rfl hb (by omega)).mono ?_
      rintro e w1 ⟨rfl, hb1⟩
      have hB : Blk w1 w.heap.size 28 (mc M0) := Blk.below (Blk.new w _ _) hb1 (by simp)
      have hbel : Below w.heap.size w w1 := Below.trans (by (repeat (first | with_reducible assumption | with_reducible exact Below.refl _ _ | with_reducible refine Below.setCell ?_ (by first | omega | (simp <;> omega)) _ | with_reducible refine Below.alloc ?_ (by first | omega | (simp <;> omega)) _ | with_reducible refine Below.drew ?_ | with_reducible refine Below.drewN ?_ _))) (hb1.mono (by simp))
      clear hb1
      obtain ⟨e0, e1, e2, e3, e4, e5⟩ := hB.six
      obtain ⟨z0, z1, z2, z3, z4, z5⟩ := hB.fr6
      go_wp2
      refine bodyPost_ret (v := .tuple #[.agg (mc M0), I 2]) ?_ rfl ⟨by rw [Hr.out.1, Hr.out.2], by (repeat (first | with_reducible assumption | with_reducible exact Below.refl _ _ | with_reducible refine Below.setCell ?_ (by first | omega | (simp <;> omega)) _ | with_reducible refine Below.alloc ?_ (by first | omega | (simp <;> omega)) _ | with_reducible refine Below.drew ?_ | with_reducible refine Below.drewN ?_ _))⟩
      simp [results, Try.results28, go_sem, *]
      try exact ⟨rfl, rfl, rfl, rfl, rfl, rfl⟩
  · have hcb : (codeL ms [] != 0) = true := by simp [hc]
    have Hr := Lib.hid (mw_bad (us := us) hc)
    clear hc
    go_enter Try.func28, Try.ntmps28
    go_wp2_with fail
    refine (l02Given_any A none n c 0 0 ms [] _ (Rd.more (Rd.alloc Hx.out (Nat.le_refl _) _) (by simp)) Rd.nil_ Hn.out rfl hb (by omega)).mono ?_
    rintro e w1 ⟨rfl, hb1⟩
    have hB : Blk w1 w.heap.size 28 (mc M0) := Blk.below (Blk.new w _ _) hb1 (by simp)
    have hbel : Below w.heap.size w w1 := Below.trans (by (repeat (first | with_reducible assumption | with_reducible exact Below.refl _ _ | with_reducible refine Below.setCell ?_ (by first | omega | (simp <;> omega)) _ | with_reducible refine Below.alloc ?_ (by first | omega | (simp <;> omega)) _ | with_reducible refine Below.drew ?_ | with_reducible refine Below.drewN ?_ _))) (hb1.mono (by simp))
    clear hb1
    obtain ⟨e0, e1, e2, e3, e4, e5⟩ := hB.six
    obtain ⟨z0, z1, z2, z3, z4, z5⟩ := hB.fr6
    go_wp2
    refine bodyPost_ret (v := .tuple #[.agg (mc M0), I (codeL ms [])]) ?_ rfl ⟨by rw [Hr.out.1, Hr.out.2], by (repeat (first | with_reducible assumption | with_reducible exact Below.refl _ _ | with_reducible refine Below.setCell ?_ (by first | omega | (simp <;> omega)) _ | with_reducible refine Below.alloc ?_ (by first | omega | (simp <;> omega)) _ | with_reducible refine Below.drew ?_ | with_reducible refine Below.drewN ?_ _))⟩
    simp [results, Try.results28, go_sem, *]
    try exact ⟨rfl, rfl, rfl, rfl, rfl, rfl⟩
end Go.Proofs.Ytomhmodpiddedaa
