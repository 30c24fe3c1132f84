/- Contracts of SizesByRank on both sides; the lists are as each theorem states. -/
import Derived.Test.YtknknljkmkfmoaaN28
import Derived.Test.YtknknljkmkfmoaaD9
namespace Go.Proofs.Ytknknljkmkfmoaa
open Go.RowKit
set_option maxRecDepth 100000
set_option linter.unusedSimpArgs false
set_option linter.unusedVariables false

theorem rk_pos {f : M} (hf : Valid f) : 1 ≤ rk f := by
  have h1 := hf.p1
  have h5 := hf.p5
  have h0 := hf.lo 0 (by omega) (by omega)
  have h2 := hf.hi 0 (by omega) (by omega)
  refine List.length_pos_of_mem (a := f.at 0) (sel_mem.2 ⟨⟨(f.at 0).toNat, by omega, by omega⟩, ?_⟩)
  obtain ⟨k, hk⟩ : ∃ k : Nat, f.at 0 = k := ⟨(f.at 0).toNat, by omega⟩
  rw [hk]
  exact imQ_ups.2 ⟨0, by omega, hk⟩
theorem rk_lep {f : M} (hf : Valid f) : rk f ≤ f.p.toNat := by
  have h5 := hf.p5
  unfold rk
  rw [sel_far (n := f.p.toNat) (by omega) fun k hk hk5 => ?_]
  · exact sel_length _ _
  · rw [← Bool.not_eq_true, imQ_ups]
    rintro ⟨i, hi, e⟩
    have := hf.hi i (by omega) (by omega)
    omega

def bump (zs : List Int) (k : Nat) : List Int := zs.set k (gi zs k + 1)
/-- the counts of the numbers k -/
def cntR (n : Nat) (ks : List Nat) : List Int := ks.foldl bump (List.replicate n 0)
theorem bump_len (zs : List Int) (k : Nat) : (bump zs k).length = zs.length := List.length_set ..
theorem foldl_bump : ∀ (ks : List Nat) (zs : List Int), (ks.foldl bump zs).length = zs.length
  | [], _ => rfl
  | k :: ks, zs => by rw [List.foldl_cons, foldl_bump, bump_len]
theorem cntR_len (n : Nat) (ks : List Nat) : (cntR n ks).length = n := by rw [cntR, foldl_bump, List.length_replicate]
theorem foldl_bd : ∀ (ks : List Nat) (zs : List Int) (m : Nat), (∀ k ∈ ks, k < zs.length) → (∀ j, 0 ≤ gi zs j ∧ gi zs j ≤ m) → ∀ j, 0 ≤ gi (ks.foldl bump zs) j ∧ gi (ks.foldl bump zs) j ≤ (m + ks.length : Nat)
  | [], zs, m, _, h, j => h j
  | k :: ks, zs, m, hk, h, j => by
    have h2 := foldl_bd ks (bump zs k) (m + 1) (fun i hi => by rw [bump_len]; exact hk i (List.mem_cons_of_mem _ hi)) (fun i => by
      have h3 := h i
      have h4 := h k
      unfold bump
      rw [gi_set (hk k (List.mem_cons_self ..))]
      split <;> omega) j
    rw [List.foldl_cons, List.length_cons]
    omega
theorem cntR_bd {n : Nat} {ks : List Nat} (h : ∀ k ∈ ks, k < n) (j : Nat) : 0 ≤ gi (cntR n ks) j ∧ gi (cntR n ks) j ≤ ks.length := by
  have := foldl_bd ks (List.replicate n 0) 0 (by simpa using h) (fun j => by
    have : gi (List.replicate n (0 : Int)) j = 0 := by
      unfold gi
      rw [List.getD_eq_getElem?_getD, List.getElem?_replicate]
      split <;> rfl
    omega) j
  unfold cntR
  omega
theorem cntR_take {n : Nat} {ks : List Nat} {q : Nat} (h : q < ks.length) : cntR n (ks.take (q + 1)) = (cntR n (ks.take q)).set (ks.getD q 0) (gi (cntR n (ks.take q)) (ks.getD q 0) + 1) := by
  rw [List.take_add_one, List.getElem?_eq_getElem h, List.getD_eq_getElem?_getD, List.getElem?_eq_getElem h]
  unfold cntR
  rw [List.foldl_append]; rfl
theorem take_lt {n : Nat} {ks : List Nat} (h : ∀ q, q < ks.length → ks.getD q 0 < n) (q : Nat) : ∀ k ∈ ks.take q, k < n := fun k hk => by
  obtain ⟨i, hi, e⟩ := List.getElem_of_mem (List.mem_of_mem_take hk)
  have := h i hi
  rw [List.getD_eq_getElem?_getD, List.getElem?_eq_getElem hi] at this
  rw [← e]; exact this

/-- how many elements have each rank -/
def srR (ms : List M) : List Int := if elC ms [] = 0 then cntR (gm ms 0).p.toNat ((elR ms []).map fun f => rk f - 1) else []
theorem srR_out {ms : List M} (hc : elC ms [] ≠ 0) : srR ms = [] := if_neg hc
theorem srR_in {ms E : List M} {ps : Met} (hE : El ms [] E ps) (hc : elC ms [] = 0) : ∃ (pn : Nat) (ks : List Nat), (gm ms 0).p = pn ∧ 1 ≤ pn ∧ pn ≤ 5 ∧ Hid (srR ms = cntR pn ks) ∧ Hid (ks.length = E.length) ∧
    Hid (∀ q, q < E.length → Valid (gm E q) ∧ ((rk (gm E q) : Nat) : Int) = (ks.getD q 0 : Nat) + 1 ∧ ks.getD q 0 < pn) := by
  have h1 := hE.p1
  have h5 := hE.p5
  refine ⟨(gm ms 0).p.toNat, E.map fun f => rk f - 1, by omega, by omega, by omega, ?_, ?_, ?_⟩
  · show _ = _; unfold srR; rw [if_pos hc, hE.r]
  · show _ = _; rw [List.length_map]
  · intro q hq
    obtain ⟨hv, hp⟩ := hE.mnd.ok _ (gm_mem hq)
    have h2 := rk_pos hv
    have h3 := rk_lep hv
    have e : (E.map fun f => rk f - 1).getD q 0 = rk (gm E q) - 1 := by
      rw [List.getD_eq_getElem?_getD, List.getElem?_map, List.getElem?_eq_getElem hq, gm_eq hq]; rfl
    rw [e]
    refine ⟨hv, by omega, ?_⟩
    rw [hp] at h3
    omega
theorem srR_len (ms : List M) : (srR ms).length ≤ 5 := by
  by_cases hc : elC ms [] = 0
  · obtain ⟨E, ps, hE⟩ := elC_el hc
    obtain ⟨pn, ks, _, _, h5, hR, _⟩ := srR_in hE hc
    rw [hR.out, cntR_len]; exact h5
  · rw [srR_out hc]; simp

set_option maxHeartbeats 1000000 in
theorem SpecSR_any (A : Option Addr) (n c : Nat) (ms : List M) (w : World) (hx : RdM w w.heap.size A ms) (hn : ms.length = n) (hb : n < 1073741824) :
    Calls Try.prog 77 #[.slice A n c] w (RetSI (srR ms) (elC ms []) w) := by
  have Hx := Lib.hid hx
  have Hn := Lib.hid hn
  clear hx hn
  by_cases hc : elC ms [] = 0
  · obtain ⟨E, ps, hE⟩ := elC_el hc
    have hlen := hE.len
    have hpos := hE.pos
    have hn1 := hE.n1
    have hl1 : 0 < n := by have := Hn.out; omega
    obtain ⟨pn, ks, hpn, hp1, hp5, HR, Hks, HK⟩ := srR_in hE hc
    have HE := Lib.hid hE
    have Hc := Lib.hid hc
    have Hpn := Lib.hid hpn
    obtain ⟨b0, off0, rfl, hbl, _⟩ := RdM.at_ Hx.out (k := 0) hn1
    obtain ⟨i, hi, hz0, hz1, hz2⟩ := info_parts infoI
    clear hE hc hpn hn1
    go_enter Try.func77, Try.ntmps77
    go_wp2_with fail
    refine (l02Elements_any (some ⟨b0, off0, none⟩) none n c 0 0 ms [] _ Hx.out Rd.nil_ Hn.out rfl hb (by decide)).mono ?_
    rintro e w1 ⟨A', c', rfl, hr, hb1⟩
    rw [HE.out.r] at hr ⊢
    rw [Hc.out]
    obtain ⟨b, off, rfl, hbb, _⟩ := RdM.at_ hr hpos
    obtain ⟨x0, _⟩ := (RdM.six (Rd.below Hx.out hb1) (k := 0) (by rw [Hn.out]; exact hl1)).1
    rw [Nat.zero_mul, Nat.add_zero, Hpn.out] at x0
    have Hr := Lib.hid hr
    have Hb1 := Lib.hid hb1
    have hszw := hb1.size
    obtain ⟨N, hN⟩ : ∃ N, E.length = N := ⟨_, rfl⟩
    rw [hN] at hlen hpos HK Hks ⊢
    have HN := Lib.hid hN
    clear hr hb1 hN
    go_wp2_with (at_make; refine wpList_make_full _ rfl _ _ _ rfl w1.heap.size 2 i (.int .i64 0) 1 Try.underlying42 hi hz0 hz1 .i64 .i64 _ _ pn rfl rfl rfl rfl (by rw [hz2]; omega) (by unfold maxLen; omega) (Nat.le_refl _) ?_; intro w2 hown hgr)
    have Hm : Hid (OwI 2 w2 w1.heap.size (.slice (some ⟨w1.heap.size, 0, none⟩) pn pn) (cntR pn (ks.take 0))) := madeI hown
    have Hbe : Hid (Below w1.heap.size w1 w2) := (Below.refl _ _).grown hgr (Nat.le_refl _) (fun k hk => by cases hk)
    clear hown hgr hi hz0 hz1 hz2 x0
    go_loopw [7] (fun i wr => ∃ q : Nat, i = .int .i64 q ∧ q ≤ N ∧ Below w1.heap.size w1 wr ∧ OwI 2 wr w1.heap.size (.slice (some ⟨w1.heap.size, 0, none⟩) pn pn) (cntR pn (ks.take q))) (fun i _ => N - (intOf i).toNat)
    case atStart => exact ⟨0, rfl, by omega, Hbe.out, Hm.out⟩
    case round =>
      clear Hbe Hm
      obtain ⟨q, rfl, hq, hb', ho⟩ := hrel
      have Hb := Lib.hid hb'
      have Ho := Lib.hid ho
      clear hb' ho
      by_cases hqN : q < N
      · have hqi : (q : Int) < (N : Int) := by omega
        obtain ⟨hv, hrk, hkp⟩ := HK.out q hqN
        have hbd := cntR_bd (take_lt (fun j hj => (HK.out j (by rw [← Hks.out]; exact hj)).2.2) q) (ks.getD q 0)
        have hct := cntR_take (n := pn) (ks := ks) (q := q) (by rw [Hks.out]; exact hqN)
        have htl : (ks.take q).length ≤ 300 := by have := List.length_take_le q ks; omega
        have hlc := cntR_len pn (ks.take q)
        have H6 := (RdM.six (Rd.more (Rd.below Hr.out Hb.out) Hb.out.size) (k := q) (by rw [HN.out]; exact hqN)).1
        obtain ⟨z, hzz⟩ : ∃ z, z = gm E q := ⟨_, rfl⟩
        obtain ⟨k, hkk⟩ : ∃ k, k = ks.getD q 0 := ⟨_, rfl⟩
        obtain ⟨C, hC⟩ : ∃ C, C = cntR pn (ks.take q) := ⟨_, rfl⟩
        rw [← hzz] at H6 hv hrk
        rw [← hkk] at hrk hkp hbd hct
        rw [← hC] at hbd hct hlc Ho
        obtain ⟨x, hx⟩ : ∃ x, x = gi C k := ⟨_, rfl⟩
        rw [← hx] at hbd hct
        obtain ⟨hx0, hx1⟩ := hbd
        have hx3 : x ≤ 300 := by omega
        have Hct := Lib.hid hct
        have Hx' := Lib.hid hx
        have Hlc := Lib.hid hlc
        have Hrk := Lib.hid hrk
        obtain ⟨x0, x1, x2, x3, x4, x5⟩ := H6
        clear hzz hkk hC hx hct hlc hx1 htl hrk
        go_wp2_with fail
        refine (l01Rank_any z wr hv).mono ?_
        rintro e w3 ⟨rfl, hb3⟩
        rw [Hrk.out]
        have Hb3 := Lib.hid (Hb.out.trans (hb3.mono Hb.out.size))
        have hki : (k : Int) < (pn : Int) := by omega
        obtain ⟨g, c', he, hgB, hgl, e1, z1, hs⟩ := (Ho.out.below hb3 (Nat.le_refl _)).spot (k := k) (by rw [Hlc.out]; exact hkp)
        rw [Hlc.out] at he
        injection he with he1 _ he2
        injection he1 with he1
        injection he1 with he1
        subst he1 he2
        rw [← Hx'.out] at e1
        have Ho5 : Hid (OwI 2 (w3.setCell ⟨w1.heap.size, k, none⟩ (I (x + 1))) w1.heap.size (.slice (some ⟨w1.heap.size, 0, none⟩) pn pn) (cntR pn (ks.take (q + 1)))) := by
          show OwI _ _ _ _ _
          rw [Hct.out]
          exact hs (x + 1)
        have Hb5 : Hid (Below w1.heap.size w1 (w3.setCell ⟨w1.heap.size, k, none⟩ (I (x + 1)))) := Hb3.out.setCell (by exact hgB) _
        clear hs hb3 x0 x1 x2 x3 x4 x5 Ho Hb
        go_wp2_with fail
        go_roundw
        case rel => exact ⟨q + 1, by go_num, by omega, Hb5.out, Ho5.out⟩
        case measure => simp [intOf]; omega
      · obtain rfl : q = N := by omega
        have hqi : ¬ ((q : Int) < (q : Int)) := by omega
        have htk : ks.take q = ks := List.take_of_length_le (by rw [Hks.out]; exact Nat.le_refl _)
        rw [htk, ← HR.out] at Ho
        have Hl : Hid ((srR ms).length = pn) := by show _ = _; rw [HR.out, cntR_len]
        have Hbe := Lib.hid (Hb1.out.trans (Hb.out.mono hszw))
        clear htk
        go_wp2_with fail
        go_ret2
        exact .mk _ _ (by rw [Hl.out, Hc.out] <;> rfl) Ho.out.rdA Hbe.out
  · have hR := srR_out (ms := ms) hc
    have HR := Lib.hid hR
    have hne : (elC ms [] != 0) = true := by simpa using hc
    clear hc hR
    go_enter Try.func77, Try.ntmps77
    go_wp2_with fail
    refine (l02Elements_any A none n c 0 0 ms [] _ Hx.out Rd.nil_ Hn.out rfl hb (by decide)).mono ?_
    rintro e w1 ⟨A', c', rfl, hr, hb1⟩
    clear hr
    go_wp2
    go_ret2
    exact .mk none 0 (by rw [HR.out] <;> rfl) (by rw [HR.out]; exact Rd.nil_) hb1

set_option maxHeartbeats 1000000 in
theorem ImplSR_any (A : Option Addr) (n c : Nat) (ms : List M) (w : World) (hx : RdM w w.heap.size A ms) (hn : ms.length = n) (hA : A = none → n = 0 ∧ c = 0) (hb : n < 536870912) :
    Calls Try.prog 78 #[.slice A n c] w (RetI (srR ms) (elC ms []) w) := by
  have Hx := Lib.hid hx
  have Hn := Lib.hid hn
  have HA := Lib.hid hA
  have hcc := monC_nil ms
  clear hx hn hA
  by_cases hc : elC ms [] = 0
  · obtain ⟨E, ps, hE⟩ := elC_el hc
    have hlen := hE.len
    have hpos := hE.pos
    have hn1 := hE.n1
    have hl1 : 0 < n := by have := Hn.out; omega
    obtain ⟨pn, ks, hpn, hp1, hp5, HR, Hks, HK⟩ := srR_in hE hc
    have HE := Lib.hid hE
    rw [hc] at hcc
    have Hc := Lib.hid hc
    have Hcc := Lib.hid hcc
    have Hpn := Lib.hid hpn
    obtain ⟨b0, off0, rfl, hbl, _⟩ := RdM.at_ Hx.out (k := 0) hn1
    obtain ⟨i, hi, hz0, hz1, hz2⟩ := info_parts infoI
    clear hE hc hcc hpn hn1
    go_enter Try.func78, Try.ntmps78
    go_wp2_with fail
    refine (monoidOf_any (some ⟨b0, off0, none⟩) none n c 0 0 ms [] _ Hx.out Rd.nil_ Hn.out rfl HA.out (fun _ => ⟨rfl, rfl⟩) (by omega)).mono ?_
    rintro e w1 ⟨r, v, rfl, hb1, hr0, hs⟩
    obtain ⟨g0, rfl, hM, _⟩ := hs ps HE.out.clo Hcc.out
    obtain ⟨_, ev, wv, pl, vs, hMo, _, hO, _⟩ := hM
    rw [← HE.out.eq] at hO
    obtain ⟨gE, cE, rfl⟩ := hO.some_ hpos
    obtain ⟨N, hN⟩ : ∃ N, E.length = N := ⟨_, rfl⟩
    rw [hN] at hlen hpos HK Hks hMo
    have HN := Lib.hid hN
    rw [Hcc.out]
    have cm := hMo.c0
    have lm0 := World.block_lt_of_cell? w1 ⟨g0, 0, none⟩ cm
    obtain ⟨x0, _⟩ := (RdM.six (Rd.below Hx.out hb1) (k := 0) (by rw [Hn.out]; exact hl1)).1
    rw [Nat.zero_mul, Nat.add_zero, Hpn.out] at x0
    have Hr := Lib.hid hO.rd
    have Hb1 := Lib.hid hb1
    have hszw := hb1.size
    clear hMo hO hb1 hs hr0 hN
    go_wp2_with (at_make; refine wpList_make_full _ rfl _ _ _ rfl w1.heap.size 2 i (.int .i64 0) 1 Try.underlying42 hi hz0 hz1 .i64 .i64 _ _ pn rfl rfl rfl rfl (by rw [hz2]; omega) (by unfold maxLen; omega) (Nat.le_refl _) ?_; intro w2 hown hgr; have hbe : Below w1.heap.size w1 w2 := (Below.refl _ _).grown hgr (Nat.le_refl _) (fun k hk => by cases hk); have cm2 := (hbe.cell (p := ⟨g0, 0, none⟩) lm0).trans cm)
    have Hm : Hid (OwI 2 w2 w1.heap.size (.slice (some ⟨w1.heap.size, 0, none⟩) pn pn) (cntR pn (ks.take 0))) := madeI hown
    have Hbe := Lib.hid hbe
    clear hown hgr hi hz0 hz1 hz2 x0 cm hbe
    go_loopw [29] (fun i wr => ∃ q : Nat, i = .int .i64 q ∧ q ≤ N ∧ Below w1.heap.size w1 wr ∧ OwI 2 wr w1.heap.size (.slice (some ⟨w1.heap.size, 0, none⟩) pn pn) (cntR pn (ks.take q))) (fun i _ => N - (intOf i).toNat)
    case atStart => exact ⟨0, rfl, by omega, Hbe.out, Hm.out⟩
    case round =>
      clear Hbe Hm cm2
      obtain ⟨q, rfl, hq, hb', ho⟩ := hrel
      have Hb := Lib.hid hb'
      have Ho := Lib.hid ho
      clear hb' ho
      by_cases hqN : q < N
      · have hqi : (q : Int) < (N : Int) := by omega
        obtain ⟨hv, hrk, hkp⟩ := HK.out q hqN
        have hbd := cntR_bd (take_lt (fun j hj => (HK.out j (by rw [← Hks.out]; exact hj)).2.2) q) (ks.getD q 0)
        have hct := cntR_take (n := pn) (ks := ks) (q := q) (by rw [Hks.out]; exact hqN)
        have htl : (ks.take q).length ≤ 300 := by have := List.length_take_le q ks; omega
        have hlc := cntR_len pn (ks.take q)
        have H6 := (RdM.six (Rd.more (Rd.below Hr.out Hb.out) Hb.out.size) (k := q) (by rw [HN.out]; exact hqN)).1
        rw [Nat.zero_add] at H6
        obtain ⟨z, hzz⟩ : ∃ z, z = gm E q := ⟨_, rfl⟩
        obtain ⟨k, hkk⟩ : ∃ k, k = ks.getD q 0 := ⟨_, rfl⟩
        obtain ⟨C, hC⟩ : ∃ C, C = cntR pn (ks.take q) := ⟨_, rfl⟩
        rw [← hzz] at H6 hv hrk
        rw [← hkk] at hrk hkp hbd hct
        rw [← hC] at hbd hct hlc Ho
        obtain ⟨x, hx⟩ : ∃ x, x = gi C k := ⟨_, rfl⟩
        rw [← hx] at hbd hct
        obtain ⟨hx0, hx1⟩ := hbd
        have hx3 : x ≤ 300 := by omega
        have Hct := Lib.hid hct
        have Hx' := Lib.hid hx
        have Hlc := Lib.hid hlc
        have Hrk := Lib.hid hrk
        obtain ⟨x0, x1, x2, x3, x4, x5⟩ := H6
        obtain ⟨wa, hwa⟩ : ∃ wa, wa = wr.alloc (.cells (mc z) 31) := ⟨_, rfl⟩
        have hba : Below wr.heap.size wr wa := by rw [hwa]; exact (Below.refl _ _).alloc (Nat.le_refl _) _
        have Hwa := Lib.hid hwa
        have Hba := Lib.hid hba
        clear hzz hkk hC hx hct hlc hx1 htl hrk hwa hba
        go_wp2_with fail
        rw [← Hwa.out]
        refine (rank_any z wa hv).mono ?_
        rintro e w3 ⟨rfl, hb3'⟩
        have hb3 := Hba.out.trans (hb3'.mono Hba.out.size)
        rw [Hrk.out]
        have Hb3 := Lib.hid (Hb.out.trans (hb3.mono Hb.out.size))
        have hki : (k : Int) < (pn : Int) := by omega
        obtain ⟨g, c', he, hgB, hgl, e1, z1, hs⟩ := (Ho.out.below hb3 (Nat.le_refl _)).spot (k := k) (by rw [Hlc.out]; exact hkp)
        rw [Hlc.out] at he
        injection he with he1 _ he2
        injection he1 with he1
        injection he1 with he1
        subst he1 he2
        rw [← Hx'.out] at e1
        have Ho5 : Hid (OwI 2 (w3.setCell ⟨w1.heap.size, k, none⟩ (I (x + 1))) w1.heap.size (.slice (some ⟨w1.heap.size, 0, none⟩) pn pn) (cntR pn (ks.take (q + 1)))) := by
          show OwI _ _ _ _ _
          rw [Hct.out]
          exact hs (x + 1)
        have Hb5 : Hid (Below w1.heap.size w1 (w3.setCell ⟨w1.heap.size, k, none⟩ (I (x + 1)))) := Hb3.out.setCell (by exact hgB) _
        clear hs hb3 hb3' x0 x1 x2 x3 x4 x5 Ho Hb Hba Hwa
        go_wp2_with fail
        go_roundw
        case rel => exact ⟨q + 1, by go_num, by omega, Hb5.out, Ho5.out⟩
        case measure => simp [intOf]; omega
      · obtain rfl : q = N := by omega
        have hqi : ¬ ((q : Int) < (q : Int)) := by omega
        have htk : ks.take q = ks := List.take_of_length_le (by rw [Hks.out]; exact Nat.le_refl _)
        rw [htk, ← HR.out] at Ho
        have Hbe := Lib.hid (Hb1.out.trans (Hb.out.mono hszw))
        clear htk
        go_wp2_with fail
        go_ret2
        exact .mk _ (by rw [Hc.out] <;> rfl) (Ho.out.mono hszw) Hbe.out
  · have hR := srR_out hc
    have HR := Lib.hid hR
    have Hcc := Lib.hid hcc
    have hne : (elC ms [] != 0) = true := by simpa using hc
    clear hc hcc hR
    go_enter Try.func78, Try.ntmps78
    go_wp2_with fail
    refine (monoidOf_any A none n c 0 0 ms [] _ Hx.out Rd.nil_ Hn.out rfl HA.out (fun _ => ⟨rfl, rfl⟩) (by omega)).mono ?_
    rintro e w1 ⟨r, v, rfl, hb1, hr0, hs⟩
    rw [Hcc.out]
    have Hb1 := Lib.hid hb1
    clear hs hb1 hr0
    go_wp2
    go_ret2
    exact .mk _ rfl (by rw [HR.out]; exact OwI.nil_) Hb1.out
end Go.Proofs.Ytknknljkmkfmoaa
