/- Plain laws of the reference's rounds for the depth; no program in sight. -/
import Derived.Test.YtneonacdjmfaoaaJD
namespace Go.Proofs.Ytneonacdjmfaoaa
open Go.RowKit
set_option maxRecDepth 100000
set_option linter.unusedSimpArgs false
set_option linter.unusedVariables false

def cl (E : List M) (i : Nat) : Nat := (gi (clsK E 3) i).toNat
def Dz (zs : List Int) (c : Nat) : Nat := (gi zs c).toNat
def owTo (E : List M) (zs : List Int) (i k : Nat) : Nat := 1 + mxTo (fun k => if underB E i k then Dz zs (cl E k) else 0) k
def ow (E : List M) (zs : List Int) (i : Nat) : Nat := owTo E zs i E.length
theorem cl_val {E : List M} {i : Nat} (hi : i < E.length) : gi (clsK E 3) i = (cl E i : Int) ∧ (cl E i : Int) < cntK E 3 := by
  have h := clsK_val E 3 hi
  unfold cl
  omega
theorem cl_same {n : Int} {E : List M} (hm : Mnd n E) {i k : Nat} (hi : i < E.length) (hk : k < E.length) (h : cl E i = cl E k) : depJ E i = depJ E k := by
  refine depJ_same hm hi hk ((clsK_eq hm 3 hi hk).1 ?_)
  rw [(cl_val hi).1, (cl_val hk).1, h]
theorem owTo_step (E : List M) (zs : List Int) (i k : Nat) : owTo E zs i (k + 1) = max (owTo E zs i k) (if underB E i k then Dz zs (cl E k) + 1 else 1) := by
  unfold owTo
  rw [mxTo]
  split <;> omega
theorem owTo_pos (E : List M) (zs : List Int) (i k : Nat) : 0 < owTo E zs i k := by unfold owTo; omega
theorem owTo_le {E : List M} {zs : List Int} {i k b : Nat} (h : ∀ j, j < k → Dz zs (cl E j) ≤ b) : owTo E zs i k ≤ 1 + b := by
  unfold owTo
  have := mxTo_le (g := fun k => if underB E i k then Dz zs (cl E k) else 0) (b := b) (k := k) fun j hj => by
    have := h j hj
    split <;> omega
  omega
theorem Dz_set {zs : List Int} {c : Nat} (hc : c < zs.length) (v : Nat) (x : Nat) : Dz (zs.set c (v : Int)) x = if x = c then v else Dz zs x := by
  unfold Dz
  by_cases e : x = c
  · rw [if_pos e, e, gi_set hc]; rfl
  · rw [if_neg e, gi_set_ne (fun h => e h.symm)]

/-- the state of a round: r rounds are done, and q elements in this one -/
structure RI2 (E : List M) (cN r q : Nat) (zs : List Int) (best : Nat) (t : Bool) : Prop where
  len : zs.length = cN
  bd : ∀ c, c < cN → 0 ≤ gi zs c ∧ gi zs c ≤ 300
  low : ∀ i, i < E.length → Dz zs (cl E i) ≤ depJ E i
  pr : ∀ i, i < E.length → min (depJ E i) r ≤ Dz zs (cl E i)
  pr1 : ∀ i, i < q → min (depJ E i) (r + 1) ≤ Dz zs (cl E i)
  b1 : best ≤ depM E
  b2 : ∀ j, j < q → Dz zs (cl E j) ≤ best
  fx : t = false → ∀ i, i < q → ow E zs i ≤ Dz zs (cl E i)
section
variable {n : Int} {E : List M} {cN r q : Nat} {zs : List Int} {best : Nat} {t : Bool}
theorem RI2.ow_le (h : RI2 E cN r q zs best t) (hm : Mnd n E) {i : Nat} (hi : i < E.length) : ow E zs i ≤ depJ E i :=
  own_le (downJ hm) (cls := cl E) (D := Dz zs) ⟨h.low⟩ hi
theorem dep_mx {i : Nat} (hi : i < E.length) : depJ E i ≤ depM E := le_mxTo hi
theorem RI2.up (h : RI2 E cN r q zs best t) (hm : Mnd n E) (hq : q < E.length) (hc : cl E q < cN) (h300 : E.length ≤ 300) (hlt : Dz zs (cl E q) < ow E zs q) :
    RI2 E cN r (q + 1) (zs.set (cl E q) (ow E zs q : Int)) (max best (ow E zs q)) true := by
  have hol := h.ow_le hm hq
  have hdl := depJ_le hm hq
  have hset := Dz_set (zs := zs) (c := cl E q) (by rw [h.len]; exact hc) (ow E zs q)
  refine ⟨by rw [List.length_set]; exact h.len, fun c hc' => ?_, fun i hi => ?_, fun i hi => ?_, fun i hi => ?_, ?_, fun j hj => ?_, fun e => by cases e⟩
  · by_cases e : cl E q = c
    · subst e
      rw [gi_set (by rw [h.len]; exact hc)]
      omega
    · rw [gi_set_ne e]; exact h.bd c hc'
  · rw [hset]
    split
    · rename_i e
      rw [cl_same hm hi hq e]; exact hol
    · exact h.low i hi
  · have := h.pr i hi
    rw [hset]
    split
    · rename_i e
      rw [e] at this; omega
    · exact this
  · rw [hset]
    by_cases e : i = q
    · subst e
      rw [if_pos rfl]
      exact own_ge (downJ hm) (cls := cl E) (D := Dz zs) hq h.pr
    · have := h.pr1 i (by omega)
      split
      · rename_i e2
        rw [e2] at this; omega
      · exact this
  · have := h.b1
    have := dep_mx hq
    omega
  · rw [hset]
    split
    · omega
    · rename_i e
      have : j ≠ q := fun e2 => e (by rw [e2])
      have := h.b2 j (by omega)
      omega
theorem RI2.stay (h : RI2 E cN r q zs best t) (hm : Mnd n E) (hq : q < E.length) (hge : ow E zs q ≤ Dz zs (cl E q)) : RI2 E cN r (q + 1) zs (max best (Dz zs (cl E q))) t := by
  refine ⟨h.len, h.bd, h.low, h.pr, fun i hi => ?_, ?_, fun j hj => ?_, fun e i hi => ?_⟩
  · by_cases e : i = q
    · subst e
      have := own_ge (downJ hm) (cls := cl E) (D := Dz zs) hq h.pr
      exact Nat.le_trans this hge
    · exact h.pr1 i (by omega)
  · have := h.b1
    have := dep_mx hq
    have := h.low q hq
    omega
  · by_cases e : j = q
    · subst e; omega
    · have := h.b2 j (by omega)
      omega
  · by_cases e2 : i = q
    · subst e2; exact hge
    · exact h.fx e i (by omega)
theorem best_eq (hb : best ≤ depM E) (h : ∀ j, j < E.length → depJ E j ≤ best) : best = depM E := by
  have := mxTo_le (g := depJ E) (b := best) (k := E.length) h
  unfold depM at hb ⊢
  omega
theorem RI2.done (h : RI2 E cN r E.length zs best false) (hm : Mnd n E) : best = depM E := by
  have hf := fix_eq (downJ hm) (cls := cl E) (D := Dz zs) ⟨h.low⟩ (fun i hi => h.fx rfl i hi)
  refine best_eq h.b1 fun j hj => ?_
  have h1 : Dz zs (cl E j) = depJ E j := hf (muJ E j) j hj (Nat.le_refl _)
  rw [← h1]
  exact h.b2 j hj
theorem RI2.next (h : RI2 E cN r E.length zs best t) : RI2 E cN (r + 1) 0 zs best false ∧ ∀ j, j < E.length → Dz zs (cl E j) ≤ best :=
  ⟨⟨h.len, h.bd, h.low, h.pr1, fun i hi => by omega, h.b1, fun j hj => by omega, fun _ i hi => by omega⟩, h.b2⟩
theorem RI2.last (h : RI2 E cN r 0 zs best t) (hm : Mnd n E) (hr : cntK E 3 ≤ r) (hb : ∀ j, j < E.length → Dz zs (cl E j) ≤ best) : best = depM E := by
  refine best_eq h.b1 fun j hj => ?_
  have h1 : depJ E j ≤ muJ E j := dep_le (downJ hm) _ j hj (Nat.le_refl _)
  have h2 := muJ_le E (i := j)
  have h3 := h.pr j hj
  have h4 := hb j hj
  omega
theorem RI2.start (hE : ∀ i, i < E.length → cl E i < cN) : RI2 E cN 0 0 (List.replicate cN 0) 0 false := by
  have h0 : ∀ c, gi (List.replicate cN 0) c = 0 := fun c => by
    unfold gi
    rw [List.getD_eq_getElem?_getD, List.getElem?_replicate]
    split <;> rfl
  have hz : ∀ c, Dz (List.replicate cN 0) c = 0 := fun c => by unfold Dz; rw [h0]; rfl
  exact ⟨List.length_replicate .., fun c _ => by rw [h0]; omega, fun i _ => by rw [hz]; omega, fun i _ => by omega, fun i hi => by omega, by omega, fun j hj => by omega, fun _ i hi => by omega⟩
end

theorem cls_bd' (E : List M) (kind : Int) {N : Nat} (hn : E.length = N) (hN : N ≤ 300) : ∀ j, j < N → 0 ≤ gi (clsK E kind) j ∧ gi (clsK E kind) j ≤ 300 := by
  subst hn
  intro j hj
  have h1 := clsK_val E kind hj
  have h2 := cntK_bd E kind
  omega
theorem cls_mx' (E : List M) (kind : Int) {N : Nat} (hn : E.length = N) : mxT (clsK E kind) N + 1 = cntK E kind := by
  subst hn
  exact mxT_nm _ _

set_option maxHeartbeats 4000000 in
theorem SpecDP_any (A : Option Addr) (n c : Nat) (ms : List M) (w : World) (hx : RdM w w.heap.size A ms) (hn : ms.length = n) (hb : n < 1073741824) :
    Calls Try.prog 22 #[.slice A n c] w fun e w' => e = .returned (.tuple #[I (dpR ms), I (monC ms [])]) ∧ Below w.heap.size w w' := by
  obtain ⟨i0, hi, hz0, hz1, hz2⟩ := info_parts infoI
  have Hx := Lib.hid hx
  have Hn := Lib.hid hn
  clear hx hn
  by_cases hm : monC ms [] = 0
  · obtain ⟨E, ps, hE, _⟩ := monC_el hm
    have hR : dpR ms = (depM E : Int) := by unfold dpR; rw [if_pos hm, hE.r]
    have hG : gR ms [] = E := by unfold gR; rw [if_pos hm, hE.r]
    have hlen := hE.len
    have hpos := hE.pos
    have hn6 := hE.n6
    obtain ⟨N, hN⟩ : ∃ N, E.length = N := ⟨_, rfl⟩
    rw [hN] at hlen hpos
    have hcb := cntK_bd E 3
    rw [hN] at hcb
    obtain ⟨C, hC⟩ : ∃ C : Nat, (C : Int) = cntK E 3 := ⟨(cntK E 3).toNat, by omega⟩
    have hC3 : C ≤ 300 := by omega
    have HcC : Hid (∀ i, i < N → cl E i < C) := fun i hi => by have := (cl_val (E := E) (i := i) (by rw [hN]; exact hi)).2; omega
    have HR := Lib.hid hR
    have HG := Lib.hid hG
    have HN := Lib.hid hN
    have HE := Lib.hid hE
    have Hm := Lib.hid hm
    have HC := Lib.hid hC
    have hn6' : n ≤ 6 := by rw [← Hn.out]; exact hn6
    have HDM : Hid (depM E ≤ 300) := mxTo_le fun j hj => by have := depJ_le hE.mnd hj; omega
    clear hE hR hG hN hm hn6 hcb hC
    go_enter Try.func22, Try.ntmps22
    go_wp2_with fail
    refine (l03Given_any A none n c 0 0 ms [] w Hx.out Rd.nil_ Hn.out rfl hb (by decide)).mono ?_
    rintro e w1 ⟨A', c', v, rfl, hr, hv, hb1⟩
    rw [HG.out] at hr ⊢
    rw [Hm.out, HN.out]
    obtain ⟨Av, cv, hvv, _⟩ := hv.form
    subst hvv
    have Hr := Lib.hid hr
    have Hb1 := Lib.hid hb1
    have hz1' := hb1.size
    clear hr hv hb1
    go_wp2_with fail
    refine (l03Table_any A' N c' E A n c ms true true w1 Hr.out HN.out (Rd.more (Rd.below Hx.out Hb1.out) hz1') Hn.out hlen hn6' HE.out.mnd HE.out.mem HE.out.G).mono ?_
    rintro e w2 ⟨v, vs, rfl, ho, hl, hT, hb2⟩
    obtain ⟨At, ct, hv, _⟩ := ho.form
    rw [hl] at hv
    subst hv
    have Ho := Lib.hid ho
    have Hl := Lib.hid hl
    have HT := Lib.hid hT
    have Hb2 := Lib.hid (Hb1.out.trans (hb2.mono hz1'))
    have hz2' := Hb2.out.size
    clear ho hl hT hb2
    go_wp2_with fail
    refine (l03Classes_any At N ct vs _ w1.heap.size w2 Ho.out Hl.out HT.out hlen).mono ?_
    rintro e w3 ⟨v2, rfl, ho3, hb3⟩
    have hcls := both_cls (n := (gm ms 0).p) HN.out (l := true) (r := true) (kind := 3) (fun i k => bothB_J E i k)
    rw [hcls] at ho3
    obtain ⟨A3, c3, hv3, _⟩ := ho3.form
    rw [clsK_length, HN.out] at hv3
    subst hv3
    have Hr3 := Lib.hid ho3.rdA
    have HR2 := Lib.hid (Rd.more (Rd.below Ho.out.rdA hb3) hb3.size)
    have HT3 : Hid (∀ j, j < N → ∃ g, gv vs j = .slice (some ⟨g, 0, none⟩) N N ∧ Bls w3 g N (fun y => relB E true true j y)) := fun j hj => by
      obtain ⟨g, e1, e2, _, _⟩ := HT.out j (by rw [Hl.out]; exact hj)
      exact ⟨g, e1, e2.below hb3 e2.lt⟩
    have Hb3 := Lib.hid (Hb2.out.trans (hb3.mono hz2'))
    have hz3 := Hb3.out.size
    clear ho3 hb3 Ho HT hcls
    go_wp2_with fail
    refine (l03Number_any A3 N c3 (clsK E 3) w3 Hr3.out (by rw [clsK_length, HN.out]) hlen (cls_bd' E 3 HN.out hlen)).mono ?_
    rintro e w4 ⟨rfl, hb4⟩
    rw [cls_mx' E 3 HN.out, ← HC.out]
    have Hr4 := Lib.hid (Rd.more (Rd.below Hr3.out hb4) hb4.size)
    have HR4 := Lib.hid (Rd.more (Rd.below HR2.out hb4) hb4.size)
    have HT4 : Hid (∀ j, j < N → ∃ g, gv vs j = .slice (some ⟨g, 0, none⟩) N N ∧ Bls w4 g N (fun y => relB E true true j y)) := fun j hj => by
      obtain ⟨g, e1, e2⟩ := HT3.out j hj
      exact ⟨g, e1, e2.below hb4 e2.lt⟩
    have Hb4 := Lib.hid (Hb3.out.trans (hb4.mono hz3))
    have hz4 := Hb4.out.size
    clear hb4 Hr3 HR2 HT3
    go_wp2_with (at_make; refine wpList_make_full _ rfl _ _ _ rfl w4.heap.size 2 i0 (.int .i64 0) 1 Try.underlying24 hi hz0 hz1 .i64 .i64 _ _ C rfl rfl rfl rfl (by rw [hz2]; omega) (by unfold maxLen; omega) (Nat.le_refl _) ?_; intro w5 hown hgr; have Ho5 := Lib.hid (madeI hown); have Hb5 := Lib.hid ((Below.refl w4.heap.size w4).grown hgr (Nat.le_refl _) (fun k hk => by cases hk)); clear hown hgr)
    clear hi hz0 hz1 hz2
    obtain ⟨gD, hgD⟩ : ∃ gD, gD = w4.heap.size := ⟨_, rfl⟩
    rw [← hgD] at Ho5 ⊢
    have Hgd := Lib.hid hgD
    clear hgD
    go_loopw [11, 12] (fun best t wr => ∃ (r : Nat) (zs : List Int) (bs : Nat), t = .int .i64 r ∧ r ≤ C ∧ best = I bs ∧ Below w4.heap.size w4 wr ∧ OwI 2 wr w4.heap.size (.slice (some ⟨gD, 0, none⟩) C C) zs ∧ RI2 E C r 0 zs bs false ∧ (0 < r → ∀ j, j < E.length → Dz zs (cl E j) ≤ bs)) (fun _ t _ => C - (intOf t).toNat)
    case atStart => exact ⟨0, List.replicate C 0, 0, rfl, by omega, rfl, Hb5.out, by rw [← Hgd.out]; exact Ho5.out, RI2.start (fun i hi => HcC.out i (by rw [← HN.out]; exact hi)), fun h => by omega⟩
    case round =>
      clear Ho5 Hb5
      obtain ⟨r, zs, bs, rfl, hrC, rfl, hbr, hor, hI, hbb⟩ := hrel
      have Hbr := Lib.hid hbr
      have Hor := Lib.hid hor
      have HI := Lib.hid hI
      have Hbb := Lib.hid hbb
      have hszr := hbr.size
      clear hbr hor hI hbb
      by_cases hr : r < C
      · have hrz : (r : Int) < (C : Int) := by omega
        go_wp2_with fail
        go_loopw [11, 13, 14] (fun best tu t wq => ∃ (q : Nat) (zs : List Int) (bs : Nat) (u : Bool), t = .int .i64 q ∧ q ≤ N ∧ best = I bs ∧ tu = .bool u ∧ Below w4.heap.size w4 wq ∧ OwI 2 wq w4.heap.size (.slice (some ⟨gD, 0, none⟩) C C) zs ∧ RI2 E C r q zs bs u) (fun _ _ t _ => N - (intOf t).toNat)
        case atStart => exact ⟨0, zs, bs, false, rfl, by omega, rfl, rfl, Hbr.out, Hor.out, HI.out⟩
        case round =>
          clear HI Hor Hbr Hbb
          obtain ⟨q, zs, bs, u, rfl, hq, rfl, rfl, hbr, hor, hI⟩ := hrel
          have Hbr := Lib.hid hbr
          have Hor := Lib.hid hor
          have HI := Lib.hid hI
          have hszr := hbr.size
          clear hbr hor hI
          by_cases hqN : q < N
          · have hqz : (q : Int) < (N : Int) := by omega
            obtain ⟨bt, ot, rfl, hbt, _⟩ := RdV.at_ HR4.out (k := q) (by rw [Hl.out]; exact hqN)
            obtain ⟨bc, oc, rfl, hbc, _⟩ := RdI.at_ Hr4.out (k := q) (by rw [clsK_length, HN.out]; exact hqN)
            obtain ⟨gq, eq1, eq2⟩ := HT4.out q hqN
            have Eq1 := Lib.hid eq1
            have Eq2 := Lib.hid eq2
            clear eq1 eq2
            go_wp2_with fail
            go_loopw [15, 16] (fun own k wq => ∃ m : Nat, k = .int .i64 m ∧ m ≤ N ∧ own = I (owTo E zs q m) ∧ Below wr.heap.size wr wq) (fun _ k _ => N - (intOf k).toNat)
            case atStart => exact ⟨0, rfl, by omega, rfl, Below.refl _ _⟩
            case round =>
              obtain ⟨m, rfl, hmN, rfl, hbq⟩ := hrel
              have Hb4w := Lib.hid (Hbr.out.trans (hbq.mono hszr))
              have Hoq := Lib.hid (Hor.out.below hbq (Nat.le_refl _))
              have Hbq := Lib.hid hbq
              have hsq := hbq.size
              clear hbq
              have hoB := owTo_le (E := E) (zs := zs) (i := q) (k := m) (b := 300) fun j hj => by
                have h1 := HI.out.low j (by rw [HN.out]; omega)
                have h2 := depJ_le HE.out.mnd (i := j) (by rw [HN.out]; omega)
                rw [HN.out] at h2
                omega
              obtain ⟨cq, hcq⟩ : ∃ cq, cq = cl E q := ⟨_, rfl⟩
              have hcqC : cq < C := by rw [hcq]; exact HcC.out q hqN
              have Hcq := Lib.hid hcq
              have hcqz : (cq : Int) < (C : Int) := by omega
              clear hcq
              by_cases hm2 : m < N
              · have hmz : (m : Int) < (N : Int) := by omega
                obtain ⟨cm, hcm⟩ : ∃ cm, cm = cl E m := ⟨_, rfl⟩
                have hcmC : cm < C := by rw [hcm]; exact HcC.out m hm2
                have hcmz : (cm : Int) < (C : Int) := by omega
                obtain ⟨a, ha⟩ : ∃ a, a = gi (clsK E 3) m := ⟨_, rfl⟩
                obtain ⟨b, hb9⟩ : ∃ b, b = gi (clsK E 3) q := ⟨_, rfl⟩
                have Hac : Hid (a = (cm : Int)) := by show _ = _; rw [ha, hcm]; exact (cl_val (by rw [HN.out]; exact hm2)).1
                have HF : Hid (∀ w', Below wr.heap.size wr w' → w'.cell? ⟨bt, ot + q, none⟩ = some (.slice (some ⟨gq, 0, none⟩) N N) ∧ w'.cell? ⟨gq, m, none⟩ = some (.bool (relB E true true q m)) ∧ w'.cell? ⟨bc, oc + m, none⟩ = some (I a) ∧ w'.cell? ⟨bc, oc + q, none⟩ = some (I b)) := fun w' hS => by
                  have hB := Hb4w.out.trans (hS.mono Hb4w.out.size)
                  rw [ha, hb9, ← Eq1.out]
                  exact ⟨RdV.at0 (Rd.below HR4.out hB) (by rw [Hl.out]; exact hqN), (Eq2.out.below hB Eq2.out.lt).cell hm2, RdI.at0 (Rd.below Hr4.out hB) (by rw [clsK_length, HN.out]; exact hm2), RdI.at0 (Rd.below Hr4.out hB) (by rw [clsK_length, HN.out]; exact hqN)⟩
                have Hun : Hid ((relB E true true q m && !decide (a = b)) = underB E q m) := by show _ = _; rw [ha, hb9]; exact under_cls HE.out.mnd (by rw [HN.out]; exact hqN) (by rw [HN.out]; exact hm2)
                have Hst := Lib.hid (owTo_step E zs q m)
                have Hop := Lib.hid (owTo_pos E zs q m)
                have Hcm := Lib.hid hcm
                clear ha hb9 hcm
                cases h1 : relB E true true q m
                · have HO : Hid (owTo E zs q (m + 1) = owTo E zs q m) := by
                    have := Hop.out
                    show _ = _
                    rw [Hst.out, ← Hun.out, h1, Bool.false_and, if_neg (by decide)]
                    omega
                  go_wp2_with fail
                  refine wp_region_same [] rfl (by kernel_rfl) (by kernel_rfl) (by kernel_rfl) (fun w' => Below wr.heap.size wr w') _
                    [.slice (some ⟨bt, ot, none⟩) N ct, I q, .pointer (some ⟨bt, ot + q, none⟩), .slice (some ⟨gq, 0, none⟩) N N, I m, .pointer (some ⟨gq, m, none⟩), .bool false, .bool false, undef, undef, undef, undef, undef, undef, undef, undef, undef, .bool false]
                    (by simp only [putAll, List.setIfInBounds_toArray, List.set_cons_succ, List.set_cons_zero]; rfl) (Below.refl _ _).drew ?hop ?hQ
                  case hop =>
                    refine FixBL.toL (fun w' w'' hS hb => hS.trans (hb.mono hS.size)) _ _ ?_
                    refine ⟨.inr ?_, .inr ?_, .inr ?_, .inr ?_, .inr ?_, .inr ?_, .inr ?_, .inr ?_, .inr ?_, .inr ?_, .inr ?_, .inr ?_, .inr ?_, .inr ?_, .inr ?_, .inr ?_, .inr ?_, .inr ?_, trivial⟩
                    · (with_reducible refine FixB.of ?_ ?_; rfl; intro w' hS; obtain ⟨s0, s1, s2, s3⟩ := HF.out _ hS; rw [h1] at s1; clear hS; unfold Oper.wp; go_simp; first | done | exact Below.refl _ _)
                    · (with_reducible refine FixB.of ?_ ?_; rfl; intro w' hS; obtain ⟨s0, s1, s2, s3⟩ := HF.out _ hS; rw [h1] at s1; clear hS; unfold Oper.wp; go_simp; first | done | exact Below.refl _ _)
                    · (with_reducible refine FixB.of ?_ ?_; rfl; intro w' hS; obtain ⟨s0, s1, s2, s3⟩ := HF.out _ hS; rw [h1] at s1; clear hS; unfold Oper.wp; go_simp; first | done | exact Below.refl _ _)
                    · (with_reducible refine FixB.of ?_ ?_; rfl; intro w' hS; obtain ⟨s0, s1, s2, s3⟩ := HF.out _ hS; rw [h1] at s1; clear hS; unfold Oper.wp; go_simp; first | done | exact Below.refl _ _)
                    · (with_reducible refine FixB.of ?_ ?_; rfl; intro w' hS; obtain ⟨s0, s1, s2, s3⟩ := HF.out _ hS; rw [h1] at s1; clear hS; unfold Oper.wp; go_simp; first | done | exact Below.refl _ _)
                    · (with_reducible refine FixB.of ?_ ?_; rfl; intro w' hS; obtain ⟨s0, s1, s2, s3⟩ := HF.out _ hS; rw [h1] at s1; clear hS; unfold Oper.wp; go_simp; first | done | exact Below.refl _ _)
                    · (with_reducible refine FixB.of ?_ ?_; rfl; intro w' hS; obtain ⟨s0, s1, s2, s3⟩ := HF.out _ hS; rw [h1] at s1; clear hS; unfold Oper.wp; go_simp; first | done | exact Below.refl _ _)
                    · (with_reducible refine FixB.of ?_ ?_; rfl; intro w' hS; obtain ⟨s0, s1, s2, s3⟩ := HF.out _ hS; rw [h1] at s1; clear hS; unfold Oper.wp; go_simp; first | done | exact Below.refl _ _)
                    · exact FixB.off (by first | rfl | kernel_rfl | (simp [Region.wanted, yielded]; done)) rfl
                    · exact FixB.off (by first | rfl | kernel_rfl | (simp [Region.wanted, yielded]; done)) rfl
                    · exact FixB.off (by first | rfl | kernel_rfl | (simp [Region.wanted, yielded]; done)) rfl
                    · exact FixB.off (by first | rfl | kernel_rfl | (simp [Region.wanted, yielded]; done)) rfl
                    · exact FixB.off (by first | rfl | kernel_rfl | (simp [Region.wanted, yielded]; done)) rfl
                    · exact FixB.off (by first | rfl | kernel_rfl | (simp [Region.wanted, yielded]; done)) rfl
                    · exact FixB.off (by first | rfl | kernel_rfl | (simp [Region.wanted, yielded]; done)) rfl
                    · exact FixB.off (by first | rfl | kernel_rfl | (simp [Region.wanted, yielded]; done)) rfl
                    · exact FixB.off (by first | rfl | kernel_rfl | (simp [Region.wanted, yielded]; done)) rfl
                    · (with_reducible refine FixB.of ?_ ?_; rfl; intro w' hS; obtain ⟨s0, s1, s2, s3⟩ := HF.out _ hS; rw [h1] at s1; clear hS; unfold Oper.wp; go_simp; first | done | exact Below.refl _ _)
                  case hQ =>
                  intro wc hS _
                  have HB2 := Lib.hid hS
                  clear hS
                  have Hbn := Lib.hid (Hbq.out.trans (HB2.out.mono hsq))
                  clear h1
                  go_wp2_with fail
                  refine ⟨⟨m + 1, by go_num, by omega, by rw [HO.out], Hbn.out⟩, by simp [intOf]; omega⟩
                · by_cases h2 : a = b
                  · have HO : Hid (owTo E zs q (m + 1) = owTo E zs q m) := by
                      have := Hop.out
                      show _ = _
                      rw [Hst.out, ← Hun.out, h1, decide_eq_true h2, Bool.true_and, if_neg (by decide)]
                      omega
                    have hab : (a != b) = false := by simpa using h2
                    clear h2
                    go_wp2_with fail
                    refine wp_region_same [] rfl (by kernel_rfl) (by kernel_rfl) (by kernel_rfl) (fun w' => Below wr.heap.size wr w') _
                      [.slice (some ⟨bt, ot, none⟩) N ct, I q, .pointer (some ⟨bt, ot + q, none⟩), .slice (some ⟨gq, 0, none⟩) N N, I m, .pointer (some ⟨gq, m, none⟩), .bool true, .bool true, .slice (some ⟨bc, oc, none⟩) N c3, I m, .pointer (some ⟨bc, oc + m, none⟩), I a, .slice (some ⟨bc, oc, none⟩) N c3, I q, .pointer (some ⟨bc, oc + q, none⟩), I b, .bool false, .bool false]
                      (by simp only [putAll, List.setIfInBounds_toArray, List.set_cons_succ, List.set_cons_zero]; rfl) (Below.refl _ _).drew ?hop ?hQ
                    case hop =>
                      refine FixBL.toL (fun w' w'' hS hb => hS.trans (hb.mono hS.size)) _ _ ?_
                      refine ⟨.inr ?_, .inr ?_, .inr ?_, .inr ?_, .inr ?_, .inr ?_, .inr ?_, .inr ?_, .inr ?_, .inr ?_, .inr ?_, .inr ?_, .inr ?_, .inr ?_, .inr ?_, .inr ?_, .inr ?_, .inr ?_, trivial⟩
                      · (with_reducible refine FixB.of ?_ ?_; rfl; intro w' hS; obtain ⟨s0, s1, s2, s3⟩ := HF.out _ hS; rw [h1] at s1; clear hS; unfold Oper.wp; go_simp; first | done | exact Below.refl _ _)
                      · (with_reducible refine FixB.of ?_ ?_; rfl; intro w' hS; obtain ⟨s0, s1, s2, s3⟩ := HF.out _ hS; rw [h1] at s1; clear hS; unfold Oper.wp; go_simp; first | done | exact Below.refl _ _)
                      · (with_reducible refine FixB.of ?_ ?_; rfl; intro w' hS; obtain ⟨s0, s1, s2, s3⟩ := HF.out _ hS; rw [h1] at s1; clear hS; unfold Oper.wp; go_simp; first | done | exact Below.refl _ _)
                      · (with_reducible refine FixB.of ?_ ?_; rfl; intro w' hS; obtain ⟨s0, s1, s2, s3⟩ := HF.out _ hS; rw [h1] at s1; clear hS; unfold Oper.wp; go_simp; first | done | exact Below.refl _ _)
                      · (with_reducible refine FixB.of ?_ ?_; rfl; intro w' hS; obtain ⟨s0, s1, s2, s3⟩ := HF.out _ hS; rw [h1] at s1; clear hS; unfold Oper.wp; go_simp; first | done | exact Below.refl _ _)
                      · (with_reducible refine FixB.of ?_ ?_; rfl; intro w' hS; obtain ⟨s0, s1, s2, s3⟩ := HF.out _ hS; rw [h1] at s1; clear hS; unfold Oper.wp; go_simp; first | done | exact Below.refl _ _)
                      · (with_reducible refine FixB.of ?_ ?_; rfl; intro w' hS; obtain ⟨s0, s1, s2, s3⟩ := HF.out _ hS; rw [h1] at s1; clear hS; unfold Oper.wp; go_simp; first | done | exact Below.refl _ _)
                      · (with_reducible refine FixB.of ?_ ?_; rfl; intro w' hS; obtain ⟨s0, s1, s2, s3⟩ := HF.out _ hS; rw [h1] at s1; clear hS; unfold Oper.wp; go_simp; first | done | exact Below.refl _ _)
                      · (refine FixB.on (by first | rfl | kernel_rfl | (simp [Region.wanted, yielded]; done)) ?_; intro w' hS; obtain ⟨s0, s1, s2, s3⟩ := HF.out _ hS; rw [h1] at s1; clear hS; unfold Oper.wp; go_simp; first | done | exact Below.refl _ _)
                      · (refine FixB.on (by first | rfl | kernel_rfl | (simp [Region.wanted, yielded]; done)) ?_; intro w' hS; obtain ⟨s0, s1, s2, s3⟩ := HF.out _ hS; rw [h1] at s1; clear hS; unfold Oper.wp; go_simp; first | done | exact Below.refl _ _)
                      · (refine FixB.on (by first | rfl | kernel_rfl | (simp [Region.wanted, yielded]; done)) ?_; intro w' hS; obtain ⟨s0, s1, s2, s3⟩ := HF.out _ hS; rw [h1] at s1; clear hS; unfold Oper.wp; go_simp; first | done | exact Below.refl _ _)
                      · (refine FixB.on (by first | rfl | kernel_rfl | (simp [Region.wanted, yielded]; done)) ?_; intro w' hS; obtain ⟨s0, s1, s2, s3⟩ := HF.out _ hS; rw [h1] at s1; clear hS; unfold Oper.wp; go_simp; first | done | exact Below.refl _ _)
                      · (refine FixB.on (by first | rfl | kernel_rfl | (simp [Region.wanted, yielded]; done)) ?_; intro w' hS; obtain ⟨s0, s1, s2, s3⟩ := HF.out _ hS; rw [h1] at s1; clear hS; unfold Oper.wp; go_simp; first | done | exact Below.refl _ _)
                      · (refine FixB.on (by first | rfl | kernel_rfl | (simp [Region.wanted, yielded]; done)) ?_; intro w' hS; obtain ⟨s0, s1, s2, s3⟩ := HF.out _ hS; rw [h1] at s1; clear hS; unfold Oper.wp; go_simp; first | done | exact Below.refl _ _)
                      · (refine FixB.on (by first | rfl | kernel_rfl | (simp [Region.wanted, yielded]; done)) ?_; intro w' hS; obtain ⟨s0, s1, s2, s3⟩ := HF.out _ hS; rw [h1] at s1; clear hS; unfold Oper.wp; go_simp; first | done | exact Below.refl _ _)
                      · (refine FixB.on (by first | rfl | kernel_rfl | (simp [Region.wanted, yielded]; done)) ?_; intro w' hS; obtain ⟨s0, s1, s2, s3⟩ := HF.out _ hS; rw [h1] at s1; clear hS; unfold Oper.wp; go_simp; first | done | exact Below.refl _ _)
                      · (refine FixB.on (by first | rfl | kernel_rfl | (simp [Region.wanted, yielded]; done)) ?_; intro w' hS; obtain ⟨s0, s1, s2, s3⟩ := HF.out _ hS; rw [h1] at s1; clear hS; unfold Oper.wp; go_simp; first | done | exact Below.refl _ _)
                      · (with_reducible refine FixB.of ?_ ?_; rfl; intro w' hS; obtain ⟨s0, s1, s2, s3⟩ := HF.out _ hS; rw [h1] at s1; clear hS; unfold Oper.wp; go_simp; first | done | exact Below.refl _ _)
                    case hQ =>
                    intro wc hS _
                    have HB2 := Lib.hid hS
                    clear hS
                    have Hbn := Lib.hid (Hbq.out.trans (HB2.out.mono hsq))
                    clear h1
                    go_wp2_with fail
                    refine ⟨⟨m + 1, by go_num, by omega, by rw [HO.out], Hbn.out⟩, by simp [intOf]; omega⟩
                  · have hab : (a != b) = true := by simpa using h2
                    obtain ⟨dz, hdz⟩ : ∃ dz, dz = Dz zs cm := ⟨_, rfl⟩
                    have HO : Hid (owTo E zs q (m + 1) = max (owTo E zs q m) (dz + 1)) := by
                      show _ = _
                      rw [Hst.out, ← Hun.out, h1, decide_eq_false h2, Bool.true_and, if_pos (by decide), ← Hcm.out, hdz]
                    have hbd := HI.out.bd cm hcmC
                    have Hgz : Hid (gi zs cm = (dz : Int)) := by show _ = _; rw [hdz]; unfold Dz; omega
                    have hdz3 : dz ≤ 300 := by rw [Hgz.out] at hbd; omega
                    clear h2 hbd hdz
                    go_wp2_with fail
                    refine wp_region_same [] rfl (by kernel_rfl) (by kernel_rfl) (by kernel_rfl) (fun w' => Below wr.heap.size wr w') _
                      [.slice (some ⟨bt, ot, none⟩) N ct, I q, .pointer (some ⟨bt, ot + q, none⟩), .slice (some ⟨gq, 0, none⟩) N N, I m, .pointer (some ⟨gq, m, none⟩), .bool true, .bool true, .slice (some ⟨bc, oc, none⟩) N c3, I m, .pointer (some ⟨bc, oc + m, none⟩), I a, .slice (some ⟨bc, oc, none⟩) N c3, I q, .pointer (some ⟨bc, oc + q, none⟩), I b, .bool true, .bool true]
                      (by simp only [putAll, List.setIfInBounds_toArray, List.set_cons_succ, List.set_cons_zero]; rfl) (Below.refl _ _).drew ?hop ?hQ
                    case hop =>
                      refine FixBL.toL (fun w' w'' hS hb => hS.trans (hb.mono hS.size)) _ _ ?_
                      refine ⟨.inr ?_, .inr ?_, .inr ?_, .inr ?_, .inr ?_, .inr ?_, .inr ?_, .inr ?_, .inr ?_, .inr ?_, .inr ?_, .inr ?_, .inr ?_, .inr ?_, .inr ?_, .inr ?_, .inr ?_, .inr ?_, trivial⟩
                      · (with_reducible refine FixB.of ?_ ?_; rfl; intro w' hS; obtain ⟨s0, s1, s2, s3⟩ := HF.out _ hS; rw [h1] at s1; clear hS; unfold Oper.wp; go_simp; first | done | exact Below.refl _ _)
                      · (with_reducible refine FixB.of ?_ ?_; rfl; intro w' hS; obtain ⟨s0, s1, s2, s3⟩ := HF.out _ hS; rw [h1] at s1; clear hS; unfold Oper.wp; go_simp; first | done | exact Below.refl _ _)
                      · (with_reducible refine FixB.of ?_ ?_; rfl; intro w' hS; obtain ⟨s0, s1, s2, s3⟩ := HF.out _ hS; rw [h1] at s1; clear hS; unfold Oper.wp; go_simp; first | done | exact Below.refl _ _)
                      · (with_reducible refine FixB.of ?_ ?_; rfl; intro w' hS; obtain ⟨s0, s1, s2, s3⟩ := HF.out _ hS; rw [h1] at s1; clear hS; unfold Oper.wp; go_simp; first | done | exact Below.refl _ _)
                      · (with_reducible refine FixB.of ?_ ?_; rfl; intro w' hS; obtain ⟨s0, s1, s2, s3⟩ := HF.out _ hS; rw [h1] at s1; clear hS; unfold Oper.wp; go_simp; first | done | exact Below.refl _ _)
                      · (with_reducible refine FixB.of ?_ ?_; rfl; intro w' hS; obtain ⟨s0, s1, s2, s3⟩ := HF.out _ hS; rw [h1] at s1; clear hS; unfold Oper.wp; go_simp; first | done | exact Below.refl _ _)
                      · (with_reducible refine FixB.of ?_ ?_; rfl; intro w' hS; obtain ⟨s0, s1, s2, s3⟩ := HF.out _ hS; rw [h1] at s1; clear hS; unfold Oper.wp; go_simp; first | done | exact Below.refl _ _)
                      · (with_reducible refine FixB.of ?_ ?_; rfl; intro w' hS; obtain ⟨s0, s1, s2, s3⟩ := HF.out _ hS; rw [h1] at s1; clear hS; unfold Oper.wp; go_simp; first | done | exact Below.refl _ _)
                      · (refine FixB.on (by first | rfl | kernel_rfl | (simp [Region.wanted, yielded]; done)) ?_; intro w' hS; obtain ⟨s0, s1, s2, s3⟩ := HF.out _ hS; rw [h1] at s1; clear hS; unfold Oper.wp; go_simp; first | done | exact Below.refl _ _)
                      · (refine FixB.on (by first | rfl | kernel_rfl | (simp [Region.wanted, yielded]; done)) ?_; intro w' hS; obtain ⟨s0, s1, s2, s3⟩ := HF.out _ hS; rw [h1] at s1; clear hS; unfold Oper.wp; go_simp; first | done | exact Below.refl _ _)
                      · (refine FixB.on (by first | rfl | kernel_rfl | (simp [Region.wanted, yielded]; done)) ?_; intro w' hS; obtain ⟨s0, s1, s2, s3⟩ := HF.out _ hS; rw [h1] at s1; clear hS; unfold Oper.wp; go_simp; first | done | exact Below.refl _ _)
                      · (refine FixB.on (by first | rfl | kernel_rfl | (simp [Region.wanted, yielded]; done)) ?_; intro w' hS; obtain ⟨s0, s1, s2, s3⟩ := HF.out _ hS; rw [h1] at s1; clear hS; unfold Oper.wp; go_simp; first | done | exact Below.refl _ _)
                      · (refine FixB.on (by first | rfl | kernel_rfl | (simp [Region.wanted, yielded]; done)) ?_; intro w' hS; obtain ⟨s0, s1, s2, s3⟩ := HF.out _ hS; rw [h1] at s1; clear hS; unfold Oper.wp; go_simp; first | done | exact Below.refl _ _)
                      · (refine FixB.on (by first | rfl | kernel_rfl | (simp [Region.wanted, yielded]; done)) ?_; intro w' hS; obtain ⟨s0, s1, s2, s3⟩ := HF.out _ hS; rw [h1] at s1; clear hS; unfold Oper.wp; go_simp; first | done | exact Below.refl _ _)
                      · (refine FixB.on (by first | rfl | kernel_rfl | (simp [Region.wanted, yielded]; done)) ?_; intro w' hS; obtain ⟨s0, s1, s2, s3⟩ := HF.out _ hS; rw [h1] at s1; clear hS; unfold Oper.wp; go_simp; first | done | exact Below.refl _ _)
                      · (refine FixB.on (by first | rfl | kernel_rfl | (simp [Region.wanted, yielded]; done)) ?_; intro w' hS; obtain ⟨s0, s1, s2, s3⟩ := HF.out _ hS; rw [h1] at s1; clear hS; unfold Oper.wp; go_simp; first | done | exact Below.refl _ _)
                      · (refine FixB.on (by first | rfl | kernel_rfl | (simp [Region.wanted, yielded]; done)) ?_; intro w' hS; obtain ⟨s0, s1, s2, s3⟩ := HF.out _ hS; rw [h1] at s1; clear hS; unfold Oper.wp; go_simp; first | done | exact Below.refl _ _)
                      · (with_reducible refine FixB.of ?_ ?_; rfl; intro w' hS; obtain ⟨s0, s1, s2, s3⟩ := HF.out _ hS; rw [h1] at s1; clear hS; unfold Oper.wp; go_simp; first | done | exact Below.refl _ _)
                    case hQ =>
                    intro wc hS _
                    have HB2 := Lib.hid hS
                    clear hS
                    have Hbn := Lib.hid (Hbq.out.trans (HB2.out.mono hsq))
                    obtain ⟨s0, s1, s2, s3⟩ := HF.out _ HB2.out
                    have hac := Hac.out
                    subst hac
                    obtain ⟨c7, _⟩ := OwI.spotAt (Hoq.out.below HB2.out (Nat.le_refl _)) (k := cm) (by rw [HI.out.len]; exact hcmC)
                    rw [Hgz.out] at c7
                    obtain ⟨o0, ho0⟩ : ∃ o0, o0 = owTo E zs q m := ⟨_, rfl⟩
                    rw [← ho0] at hoB HO ⊢
                    clear h1 hab s0 s1 s3 ho0
                    go_wp2_with fail
                    refine ⟨⟨m + 1, by go_num, by omega, by rw [HO.out]; congr 1; omega, Hbn.out⟩, by simp [intOf]; omega⟩
              · obtain rfl : m = N := by omega
                have hmz : ¬ ((m : Int) < (m : Int)) := by omega
                have hcc : gi (clsK E 3) q = (cq : Int) := by rw [Hcq.out]; exact (cl_val (by rw [HN.out]; exact hqN)).1
                have c8 := RdI.at0 (Rd.below Hr4.out Hb4w.out) (k := q) (by rw [clsK_length, HN.out]; exact hqN)
                rw [hcc] at c8
                obtain ⟨dz, hdz⟩ : ∃ dz, dz = Dz zs cq := ⟨_, rfl⟩
                have hbd := HI.out.bd cq hcqC
                have hgz : gi zs cq = (dz : Int) := by rw [hdz]; unfold Dz; omega
                obtain ⟨c7, z7, _, hg7, hst⟩ := OwI.spotAt Hoq.out (k := cq) (by rw [HI.out.len]; exact hcqC)
                rw [hgz] at c7
                have HOW : Hid (ow E zs q = owTo E zs q m) := by show _ = _; unfold ow; rw [HN.out]
                obtain ⟨o0, ho0⟩ : ∃ o0, o0 = owTo E zs q m := ⟨_, rfl⟩
                rw [← ho0] at hoB HOW ⊢
                have hI := HI.out
                have hb300 : bs ≤ 300 := Nat.le_trans hI.b1 HDM.out
                have hqE : q < E.length := by rw [HN.out]; exact hqN
                clear ho0 hcc hbd
                by_cases hlt : dz < o0
                · have hup := hI.up HE.out.mnd hqE (by rw [← Hcq.out]; exact hcqC) (by rw [HN.out]; exact hlen) (by rw [← Hcq.out, ← hdz, HOW.out]; exact hlt)
                  rw [← Hcq.out, HOW.out] at hup
                  have Hup := Lib.hid hup
                  have Hst := Lib.hid (hst (o0 : Int))
                  have Hbn := Lib.hid (Hb4w.out.setCell (p := ⟨gD, cq, none⟩) hg7 (I (o0 : Int)))
                  clear hI hup hst hgz hdz
                  go_wp2_with fail
                  refine ⟨⟨q + 1, zs.set cq (o0 : Int), max bs o0, true, by go_num, by omega, by congr 1; omega, rfl, Hbn.out, Hst.out, Hup.out⟩, by simp [intOf]; omega⟩
                · have hup := hI.stay HE.out.mnd hqE (by rw [← Hcq.out, ← hdz, HOW.out]; omega)
                  rw [← Hcq.out, ← hdz] at hup
                  have Hup := Lib.hid hup
                  clear hI hup hst hgz hdz
                  go_wp2_with fail
                  refine ⟨⟨q + 1, zs, max bs dz, u, by go_num, by omega, by congr 1; omega, rfl, Hb4w.out, Hoq.out, Hup.out⟩, by simp [intOf]; omega⟩
          · obtain rfl : q = N := by omega
            have hqz : ¬ ((q : Int) < (q : Int)) := by omega
            cases u
            · have HBM : Hid (bs = depM E) := by
                have h := HI.out
                rw [← HN.out] at h
                exact h.done HE.out.mnd
              have Hbe := Lib.hid (Hb4.out.trans (Hbr.out.mono hz4))
              go_wp2_with fail
              go_ret2
              exact ⟨by rw [HR.out, Hm.out, HBM.out] <;> rfl, Hbe.out⟩
            · have HNX : Hid (RI2 E C (r + 1) 0 zs bs false ∧ ∀ j, j < E.length → Dz zs (cl E j) ≤ bs) := by
                have h := HI.out
                rw [← HN.out] at h
                exact h.next
              go_wp2_with fail
              refine ⟨⟨r + 1, zs, bs, by go_num, by omega, rfl, Hbr.out, Hor.out, HNX.out.1, fun _ => HNX.out.2⟩, by simp [intOf]; omega⟩
      · obtain rfl : r = C := by omega
        have hrz : ¬ ((r : Int) < (r : Int)) := by omega
        have hrp : 0 < r := by have := HcC.out 0 hpos; omega
        have HBM : Hid (bs = depM E) := HI.out.last HE.out.mnd (by rw [← HC.out]; exact Int.le_refl _) (Hbb.out hrp)
        have Hbe := Lib.hid (Hb4.out.trans (Hbr.out.mono hz4))
        go_wp2_with fail
        go_ret2
        exact ⟨by rw [HR.out, Hm.out, HBM.out] <;> rfl, Hbe.out⟩
  · have hR := dpR_bad hm
    have hne : (monC ms [] != 0) = true := by simpa using hm
    have HR := Lib.hid hR
    clear hR hm
    go_enter Try.func22, Try.ntmps22
    go_wp2_with fail
    refine (l03Given_any A none n c 0 0 ms [] w Hx.out Rd.nil_ Hn.out rfl hb (by decide)).mono ?_
    rintro e w1 ⟨A', c', v, rfl, hr, hv, hb1⟩
    obtain ⟨Av, cv, hvv, _⟩ := hv.form
    subst hvv
    have Hb1 := Lib.hid hb1
    clear hr hv hb1
    go_wp2_with fail
    go_ret2
    exact ⟨by rw [HR.out] <;> rfl, Hb1.out⟩
end Go.Proofs.Ytneonacdjmfaoaa
