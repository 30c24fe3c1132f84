/- Contracts of SizesByLength of both sides; the lists are as each theorem states. -/
import Derived.Test.YtknknljkmkfmoaaN27
namespace Go.Proofs.Ytknknljkmkfmoaa
open Go.RowKit
set_option maxRecDepth 100000
set_option linter.unusedSimpArgs false

/-- the length of a slice -/
def slen : Value → Nat
  | .slice _ m _ => m
  | _ => 0
/-- how many elements have least words of each length -/
def slR (ms : List M) : List Int := if elC ms [] = 0 then (match clo ms (gm ms 0).p with | some ps => cntOf (ps.map fun q => q.2.length) | none => []) else []
theorem slR_in {ms E : List M} {ps : Met} (hE : El ms [] E ps) (hc : elC ms [] = 0) : slR ms = cntOf (ps.map fun q => q.2.length) := by
  unfold slR; rw [if_pos hc, hE.clo]
theorem slR_out {ms : List M} (hc : elC ms [] ≠ 0) : slR ms = [] := if_neg hc
theorem slR_in2 {ms E : List M} {ps : Met} (hE : El ms [] E ps) (hc : elC ms [] = 0) : slR ms = cntOf (E.map fun f => (wordOf ps f).length) := by
  rw [slR_in hE hc, hE.eq]
  refine cntOf_perm ?_
  have h := (words_perm hE.clo).map List.length
  rw [List.map_map, List.map_map] at h
  exact h.symm
theorem cnt_len {ks : List Nat} (h : ∀ k ∈ ks, k ≤ 300) : (cntOf ks).length ≤ 301 := by
  unfold cntOf
  rw [foldl_len]
  have h2 : mxTo (fun i => ks.getD i 0 + 1) ks.length ≤ 301 := mxTo_le fun j hj => by
    have h3 : ks.getD j 0 ∈ ks := by simp only [List.getD_eq_getElem?_getD, List.getElem?_eq_getElem hj, Option.getD_some]; exact List.getElem_mem hj
    have := h _ h3
    omega
  exact Nat.max_le.2 ⟨by simp, h2⟩
theorem met_len {ms : List M} {n : Int} {ps : Met} (h : clo ms n = some ps) : ∀ q ∈ ps, q.2.length ≤ 300 := fun q hq => by
  obtain ⟨i, hi, e⟩ := List.getElem_of_mem hq
  have h1 := (clo_good h).1.wl i hi
  have h2 := (clo_good h).1.len
  rw [pm_eq hi, e] at h1
  omega
theorem slR_len (ms : List M) : (slR ms).length ≤ 301 := by
  by_cases hc : elC ms [] = 0
  · obtain ⟨E, ps, hE⟩ := elC_el hc
    rw [slR_in hE hc]
    refine cnt_len fun k hk => ?_
    obtain ⟨q, hq, rfl⟩ := List.mem_map.1 hk
    exact met_len hE.clo q hq
  · rw [slR_out hc]; simp

set_option maxHeartbeats 1000000 in
theorem SpecSL_any (A : Option Addr) (n c : Nat) (ms : List M) (w : World) (hx : RdM w w.heap.size A ms) (hn : ms.length = n) (hb : n < 1073741824) :
    Calls Try.prog 46 #[.slice A n c] w (RetSI (slR ms) (elC ms []) w) := by
  have Hx := Lib.hid hx
  have Hn := Lib.hid hn
  clear hx hn
  by_cases hc : codeL ms [] = 0
  · obtain ⟨q1, q2, q3, q4, q5, q6⟩ := codeL_pts' hc
    have Hc := Lib.hid hc
    have H3 := Lib.hid q3
    have hl1 : 0 < n := by have := Hn.out; omega
    obtain ⟨b, off, rfl, hbl, _⟩ := RdM.at_ Hx.out (k := 0) (by omega)
    clear hc q3
    go_enter Try.func46, Try.ntmps46
    go_wp2_with fail
    refine (l02Given_any (some ⟨b, off, none⟩) none n c 0 0 ms [] _ Hx.out Rd.nil_ Hn.out rfl hb (by decide)).mono ?_
    rintro e w1 ⟨rfl, hb1⟩
    rw [Hc.out]
    have Hb1 := Lib.hid hb1
    obtain ⟨x0, _⟩ := (RdM.six (Rd.below Hx.out hb1) (k := 0) (by rw [Hn.out]; exact hl1)).1
    rw [Nat.zero_mul, Nat.add_zero] at x0
    have hz1 := hb1.size
    clear hb1
    go_wp2_with fail
    refine (l02Closed_any (some ⟨b, off, none⟩) n c ms (gm ms 0).p w1 (Rd.more (Rd.below Hx.out Hb1.out) hz1) Hn.out (by omega) q1 q2 H3.out).mono ?_
    rintro e w2 ⟨v1, v2, rfl, hb2', hsome⟩
    have Hb2 := Lib.hid (Hb1.out.trans (hb2'.mono hz1))
    have hz2 := hb2'.size
    clear x0
    cases hclo : clo ms (gm ms 0).p with
    | none =>
      have hmc := elC_none Hc.out hclo
      have hR := slR_out (ms := ms) (by rw [hmc]; decide)
      have HR := Lib.hid hR
      have Hmc := Lib.hid hmc
      rw [show (none : Option Met).isSome = false from rfl]
      clear hsome hb2' hclo hmc hR
      go_wp2
      go_ret2
      exact .mk none 0 (by rw [Hmc.out, HR.out] <;> rfl) (by rw [HR.out]; exact Rd.nil_) Hb2.out
    | some ps =>
      obtain ⟨hO, vs, hW, hvl, hws⟩ := hsome ps hclo
      have hgd := (clo_good hclo).1
      have hN := hgd.len
      have hmc := elC_some Hc.out hclo
      have hR : slR ms = cntOf (ps.map fun q => q.2.length) := by unfold slR; rw [if_pos hmc, hclo]
      obtain ⟨A1, c1, hv1, _⟩ := hO.form
      subst hv1
      obtain ⟨g2, c2, rfl⟩ := hW.some_ (by rw [hvl]; obtain ⟨qs, e, _⟩ := hgd.fst; rw [e]; simp)
      rw [hvl] at hW ⊢
      have HW := Lib.hid hW.rd
      have Hvl := Lib.hid hvl
      have Hws := Lib.hid hws
      have HR := Lib.hid hR
      have Hmc := Lib.hid hmc
      obtain ⟨ks, hks⟩ : ∃ ks, ks = ps.map fun q => q.2.length := ⟨_, rfl⟩
      obtain ⟨N, hNN⟩ : ∃ N, N = ps.length := ⟨_, rfl⟩
      have Hks : Hid (ks.length = N) := by show _ = _; rw [hks, hNN, List.length_map]
      have Hkb : Hid (∀ k ∈ ks, k ≤ 300) := fun k hk => by
        rw [hks] at hk
        obtain ⟨q, hq, rfl⟩ := List.mem_map.1 hk
        exact met_len hclo q hq
      have Hkp : Hid (∀ q, q < N → (pm ps q).2.length = ks.getD q 0) := fun q hq => by
        rw [hNN] at hq
        rw [hks, List.getD_eq_getElem?_getD, List.getElem?_map, List.getElem?_eq_getElem hq, pm_eq hq]; rfl
      rw [← hks] at HR
      rw [← hNN] at hN Hvl Hws ⊢
      rw [show (some ps : Option Met).isSome = true from rfl]
      clear hsome hb2' hclo hO hW hvl hws hgd hmc hR hks hNN
      go_wp2_with fail
      go_loopw [8, 9] (fun v i wr => ∃ q : Nat, i = .int .i64 q ∧ q ≤ N ∧ Below w2.heap.size w2 wr ∧ OwI 2 wr w2.heap.size v (cntOf (ks.take q))) (fun _ i _ => N - (intOf i).toNat)
      case atStart => exact ⟨0, rfl, by omega, (Below.refl _ _).alloc (Nat.le_refl _) _, OwI.made (Nat.le_refl _)⟩
      case round =>
        obtain ⟨q, rfl, hq, hb', ho⟩ := hrel
        obtain ⟨A1, c1, hv, _⟩ := ho.form
        obtain ⟨k1, hk1⟩ : ∃ k1, (cntOf (ks.take q)).length = k1 := ⟨_, rfl⟩
        rw [hk1] at hv
        subst hv
        have Hk1 := Lib.hid hk1
        have Hb := Lib.hid hb'
        have Ho := Lib.hid ho
        clear hb' ho hk1
        by_cases hqN : q < N
        · have hqi : (q : Int) < (N : Int) := by omega
          obtain ⟨k, hkk⟩ : ∃ k, ks.getD q 0 = k := ⟨_, rfl⟩
          have Hkq := Lib.hid hkk
          have hk300 : k ≤ 300 := by
            rw [← hkk, List.getD_eq_getElem?_getD, List.getElem?_eq_getElem (by rw [Hks.out]; exact hqN)]
            exact Hkb.out _ (List.getElem_mem _)
          have hwq := Hws.out q hqN
          obtain ⟨Au, cu, hvu, _⟩ := hwq.form
          rw [Hkp.out q hqN, hkk] at hvu
          have HCW : Hid (∀ w', Below w2.heap.size w2 w' → w'.cell? ⟨g2, q, none⟩ = some (.slice Au k cu)) := fun w' hb2 => by
            obtain ⟨b', o', e', _, hcw⟩ := RdV.at_ (Rd.below HW.out hb2) (k := q) (by rw [Hvl.out]; exact hqN)
            injection e' with e'
            injection e' with e1 e2 _
            subst e1 e2
            rw [Nat.zero_add, hvu] at hcw
            exact hcw
          clear hkk hwq hvu
          have hcs : cntOf (ks.take (q + 1)) = cntStep (cntOf (ks.take q)) k := by
            rw [List.take_add_one, List.getElem?_eq_getElem (by rw [Hks.out]; exact hqN)]
            have e : ks[q]'(by rw [Hks.out]; exact hqN) = k := by have := Hkq.out; rw [List.getD_eq_getElem?_getD, List.getElem?_eq_getElem (by rw [Hks.out]; exact hqN)] at this; exact this
            rw [e]; exact cntOf_snoc _ _
          have Hcs := Lib.hid hcs
          have hgk : 0 ≤ gi (cntOf (ks.take q)) k ∧ gi (cntOf (ks.take q)) k ≤ 300 := by
            unfold cntOf
            rw [foldl_gi]
            have h1 := List.count_le_length (a := k) (l := ks.take q)
            rw [List.length_take] at h1
            have h2 : gi ([] : List Int) k = 0 := rfl
            have := Hks.out
            omega
          have hC300 : k1 ≤ 301 := by
            have h1 := Hk1.out
            unfold cntOf at h1
            rw [foldl_len] at h1
            have h2 : mxTo (fun i => (ks.take q).getD i 0 + 1) (ks.take q).length ≤ 301 := mxTo_le fun j hj => by
              have h3 : (ks.take q).getD j 0 ∈ ks.take q := by simp only [List.getD_eq_getElem?_getD, List.getElem?_eq_getElem hj, Option.getD_some]; exact List.getElem_mem hj
              have := Hkb.out _ (List.mem_of_mem_take h3)
              omega
            have h5 : ([] : List Int).length = 0 := rfl
            rw [h5] at h1
            omega
          obtain ⟨C, hC⟩ : ∃ C, C = cntOf (ks.take q) := ⟨_, rfl⟩
          rw [← hC] at Ho Hk1 Hcs hgk
          have hg0 := hgk.1
          have hg1 := hgk.2
          have HC := Lib.hid hC
          clear hcs hgk hC
          go_wp2_with fail
          go_loopw [8] (fun v wr => ∃ (t : Nat) (A1 : Option Addr) (c1 : Nat), v = .slice A1 (k1 + t) c1 ∧ t ≤ k + 1 - k1 ∧ OwI 2 wr w2.heap.size (.slice A1 (k1 + t) c1) (C ++ List.replicate t 0) ∧ Below w2.heap.size w2 wr) (fun v _ => k + 1 - slen v)
          case atStart => exact ⟨0, A1, c1, rfl, by omega, by simpa using Ho.out, Hb.out⟩
          case round =>
            clear Ho Hb
            obtain ⟨t, A1, c1, rfl, ht, ho, hb⟩ := hrel
            have Ho := Lib.hid ho
            have Hb := Lib.hid hb
            have hsz := hb.size
            have hlt : (C ++ List.replicate t (0 : Int)).length = k1 + t := by rw [List.length_append, List.length_replicate, Hk1.out]
            have Hlt := Lib.hid hlt
            clear ho hb hlt
            have e0 := HCW.out wr Hb.out
            by_cases hle : k1 + t ≤ k
            · have hli : ((k1 + t : Nat) : Int) ≤ (k : Int) := by omega
              have hli2 : (k1 : Int) + (t : Int) ≤ (k : Int) := by omega
              go_wp2_with (at_builtin; refine wpList_pushI rfl (.tmp 42) (.tmp 43) rfl w2.heap.size (.slice A1 (k1 + t) c1) (C ++ List.replicate t 0) rfl (Ho.out.alloc _) wr.heap.size 1 0 rfl ((Blk.new _ _ _).cell 0) (by rw [Hlt.out]; omega) (by simp; omega) (wr.heap.size + 1) (by simp) ?_; intro g' cap w4 ho' hgr hg' hlt'; have Hb4 := Lib.hid (((Ho.out.alloc (.cells #[I 0] 2)).bel (Hb.out.alloc hsz _) hgr (Nat.le_refl _) (by simp; omega))); rw [Hlt.out] at ho' ⊢; have Ho4 : Hid (OwI 2 w4 w2.heap.size (.slice (some ⟨g', 0, none⟩) (k1 + (t + 1)) cap) (C ++ List.replicate (t + 1) 0)) := (by rw [List.append_assoc, show List.replicate t (0 : Int) ++ [0] = List.replicate (t + 1) 0 from (List.replicate_succ').symm] at ho'; exact ho'); clear ho' hgr hg' hlt')
              go_roundw
              case rel => exact ⟨t + 1, some ⟨g', 0, none⟩, cap, by first | rfl | (simp; omega), by omega, Ho4.out, Hb4.out⟩
              case measure => simp [slen]; omega
            · have hli : ¬ ((k1 + t : Nat) : Int) ≤ (k : Int) := by omega
              have hli2 : ¬ (k1 : Int) + (t : Int) ≤ (k : Int) := by omega
              have hte : t = k + 1 - k1 := by omega
              have Hst : Hid (cntStep C k = (C ++ List.replicate t 0).set k (gi (C ++ List.replicate t 0) k + 1)) := by show _ = _; unfold cntStep; rw [Hk1.out, ← hte]
              obtain ⟨g, c', he, hgB, hgl, e1, z1, hs⟩ := Ho.out.spot (k := k) (by rw [Hlt.out]; omega)
              rw [Hlt.out] at he
              injection he with he1 _ he2
              subst he1 he2
              rw [gi_pad] at e1
              have Hs := Lib.hid hs
              have hgp := gi_pad C t k
              have Hgp := Lib.hid hgp
              obtain ⟨x, hx⟩ : ∃ x, x = gi C k := ⟨_, rfl⟩
              rw [← hx] at e1 hg0 hg1 Hgp
              have hki : (k : Int) < ((k1 + t : Nat) : Int) := by omega
              have hki2 : (k : Int) < (k1 : Int) + (t : Int) := by omega
              have Ho5 : Hid (OwI 2 (wr.setCell ⟨g, k, none⟩ (I (x + 1))) w2.heap.size (.slice (some ⟨g, 0, none⟩) (k1 + t) c1) (cntOf (ks.take (q + 1)))) := by
                show OwI _ _ _ _ _
                rw [Hcs.out, Hst.out, Hgp.out]
                exact Hs.out (x + 1)
              have Hb5 : Hid (Below w2.heap.size w2 (wr.setCell ⟨g, k, none⟩ (I (x + 1)))) := Hb.out.setCell (by exact hgB) _
              clear hs hgp hx
              go_wp2_with fail
              go_roundw
              case rel => exact ⟨q + 1, by go_num, by omega, Hb5.out, Ho5.out⟩
              case measure => simp [intOf]; omega
        · obtain rfl : q = N := by omega
          have hqi : ¬ ((q : Int) < (q : Int)) := by omega
          have htk : ks.take q = ks := List.take_of_length_le (by rw [Hks.out]; exact Nat.le_refl _)
          rw [htk, ← HR.out] at Hk1 Ho
          have Hbe := Lib.hid (Hb2.out.trans (Hb.out.mono (by omega)))
          clear htk
          go_wp2_with fail
          go_ret2
          exact .mk A1 c1 (by rw [Hk1.out, Hmc.out] <;> rfl) Ho.out.rdA Hbe.out
  · have hmc := elC_code hc
    have hR := slR_out (ms := ms) (by rw [hmc]; exact hc)
    have HR := Lib.hid hR
    have Hmc := Lib.hid hmc
    have hne : (codeL ms [] != 0) = true := by simpa using hc
    clear hc hmc hR
    go_enter Try.func46, Try.ntmps46
    go_wp2_with fail
    refine (l02Given_any A none n c 0 0 ms [] _ Hx.out Rd.nil_ Hn.out rfl hb (by decide)).mono ?_
    rintro e w1 ⟨rfl, hb1⟩
    go_wp2
    go_ret2
    exact .mk none 0 (by rw [HR.out, Hmc.out] <;> rfl) (by rw [HR.out]; exact Rd.nil_) hb1

set_option maxHeartbeats 1000000 in
theorem ImplSL_any (A : Option Addr) (n c : Nat) (ms : List M) (w : World) (hx : RdM w w.heap.size A ms) (hn : ms.length = n) (hA : A = none → n = 0 ∧ c = 0) (hb : n < 536870912) :
    Calls Try.prog 47 #[.slice A n c] w (RetI (slR ms) (elC ms []) w) := by
  have Hx := Lib.hid hx
  have Hn := Lib.hid hn
  have HA := Lib.hid hA
  have hcc := monC_nil ms
  clear hx hn hA
  by_cases hc : elC ms [] = 0
  · obtain ⟨E, ps, hE⟩ := elC_el hc
    have hN0 := hE.len
    have hpos := hE.pos
    have hR := slR_in2 hE hc
    have HE := Lib.hid hE
    rw [hc] at hcc
    have Hc := Lib.hid hc
    have Hcc := Lib.hid hcc
    have HR := Lib.hid hR
    obtain ⟨ks, hks⟩ : ∃ ks, ks = E.map fun f => (wordOf ps f).length := ⟨_, rfl⟩
    obtain ⟨N, hNN⟩ : ∃ N, N = E.length := ⟨_, rfl⟩
    have Hks : Hid (ks.length = N) := by show _ = _; rw [hks, hNN, List.length_map]
    have Hkb : Hid (∀ k ∈ ks, k ≤ 300) := fun k hk => by
      rw [hks] at hk
      obtain ⟨f, hf, rfl⟩ := List.mem_map.1 hk
      rw [hE.eq] at hf
      exact word_len hE.clo (sortM_mem.1 hf)
    have Hkp : Hid (∀ q, q < N → (((eltM ps).map (wordOf ps)).getD q []).length = ks.getD q 0) := fun q hq => by
      rw [hNN] at hq
      rw [hks, ← hE.eq, List.getD_eq_getElem?_getD, List.getD_eq_getElem?_getD, List.getElem?_map, List.getElem?_map, List.getElem?_eq_getElem hq]; rfl
    rw [← hks] at HR
    have HNN : Hid (N = (eltM ps).length) := by show _ = _; rw [hNN, hE.eq]
    rw [← hNN] at hN0 hpos
    have hN := hN0
    clear hE hc hcc hR hks hNN
    go_enter Try.func47, Try.ntmps47
    go_wp2_with fail
    refine (monoidOf_any A none n c 0 0 ms [] _ Hx.out Rd.nil_ Hn.out rfl HA.out (fun _ => ⟨rfl, rfl⟩) (by omega)).mono ?_
    rintro e w1 ⟨r, v, rfl, hb1, hr0, hs⟩
    obtain ⟨g0, rfl, hM, _⟩ := hs ps HE.out.clo Hcc.out
    obtain ⟨_, ev, wv, pl, vs, hMo, _, _, hW, hvl, hul, hws⟩ := hM
    rw [← HNN.out] at hvl hws
    obtain ⟨gW, cW, rfl⟩ := hW.some_ (by omega)
    rw [hvl] at hMo
    rw [Hcc.out]
    have cm := hMo.c1
    have HW := Lib.hid hW.rd
    have Hvl := Lib.hid hvl
    have Hws := Lib.hid hws
    have Hb1 := Lib.hid hb1
    have hz1 := hb1.size
    clear hMo hW hvl hws hb1 hs hr0 hul
    go_wp2_with fail
    go_loopw [7, 24] (fun v i wr => ∃ q : Nat, i = .int .i64 q ∧ q ≤ N ∧ Below w1.heap.size w1 wr ∧ OwI 2 wr w1.heap.size v (cntOf (ks.take q))) (fun _ i _ => N - (intOf i).toNat)
    case atStart => exact ⟨0, rfl, by omega, Below.refl _ _, OwI.nil_⟩
    case round =>
      obtain ⟨q, rfl, hq, hb', ho⟩ := hrel
      obtain ⟨A1, c1, hv, _⟩ := ho.form
      obtain ⟨k1, hk1⟩ : ∃ k1, (cntOf (ks.take q)).length = k1 := ⟨_, rfl⟩
      rw [hk1] at hv
      subst hv
      have Hk1 := Lib.hid hk1
      have Hb := Lib.hid hb'
      have Ho := Lib.hid ho
      clear hb' ho hk1
      by_cases hqN : q < N
      · have hqi : (q : Int) < (N : Int) := by omega
        obtain ⟨k, hkk⟩ : ∃ k, ks.getD q 0 = k := ⟨_, rfl⟩
        have Hkq := Lib.hid hkk
        have hk300 : k ≤ 300 := by
          rw [← hkk, List.getD_eq_getElem?_getD, List.getElem?_eq_getElem (by rw [Hks.out]; exact hqN)]
          exact Hkb.out _ (List.getElem_mem _)
        have hwq := Hws.out q hqN
        obtain ⟨Au, cu, hvu, _⟩ := hwq.form
        rw [Hkp.out q hqN, hkk] at hvu
        have e0 : wr.cell? ⟨gW, q, none⟩ = some (.slice Au k cu) := by
          obtain ⟨b', o', e', _, hcw⟩ := RdV.at_ (Rd.below HW.out Hb.out) (k := q) (by rw [Hvl.out]; exact hqN)
          injection e' with e'
          injection e' with e1 e2 _
          subst e1 e2
          rw [Nat.zero_add, hvu] at hcw
          exact hcw
        clear hkk hwq hvu
        have hcs : cntOf (ks.take (q + 1)) = cntStep (cntOf (ks.take q)) k := by
          rw [List.take_add_one, List.getElem?_eq_getElem (by rw [Hks.out]; exact hqN)]
          have e : ks[q]'(by rw [Hks.out]; exact hqN) = k := by have := Hkq.out; rw [List.getD_eq_getElem?_getD, List.getElem?_eq_getElem (by rw [Hks.out]; exact hqN)] at this; exact this
          rw [e]; exact cntOf_snoc _ _
        have Hcs := Lib.hid hcs
        have hgk : 0 ≤ gi (cntOf (ks.take q)) k ∧ gi (cntOf (ks.take q)) k ≤ 300 := by
          unfold cntOf
          rw [foldl_gi]
          have h1 := List.count_le_length (a := k) (l := ks.take q)
          rw [List.length_take] at h1
          have h2 : gi ([] : List Int) k = 0 := rfl
          have := Hks.out
          omega
        have hC300 : k1 ≤ 301 := by
          have h1 := Hk1.out
          unfold cntOf at h1
          rw [foldl_len] at h1
          have h2 : mxTo (fun i => (ks.take q).getD i 0 + 1) (ks.take q).length ≤ 301 := mxTo_le fun j hj => by
            have h3 : (ks.take q).getD j 0 ∈ ks.take q := by simp only [List.getD_eq_getElem?_getD, List.getElem?_eq_getElem hj, Option.getD_some]; exact List.getElem_mem hj
            have := Hkb.out _ (List.mem_of_mem_take h3)
            omega
          have h5 : ([] : List Int).length = 0 := rfl
          rw [h5] at h1
          omega
        obtain ⟨C, hC⟩ : ∃ C, C = cntOf (ks.take q) := ⟨_, rfl⟩
        rw [← hC] at Ho Hk1 Hcs hgk
        have hg0 := hgk.1
        have hg1 := hgk.2
        have HC := Lib.hid hC
        clear hcs hgk hC
        go_wp2_with fail
        go_loopw [7] (fun v wr => ∃ (t : Nat) (A1 : Option Addr) (c1 : Nat), v = .slice A1 (k1 + t) c1 ∧ t ≤ k + 1 - k1 ∧ OwI 2 wr w1.heap.size (.slice A1 (k1 + t) c1) (C ++ List.replicate t 0) ∧ Below w1.heap.size w1 wr) (fun v _ => k + 1 - slen v)
        case atStart => exact ⟨0, A1, c1, rfl, by omega, by simpa using Ho.out, Hb.out⟩
        case round =>
          clear Ho Hb
          obtain ⟨t, A1, c1, rfl, ht, ho, hb⟩ := hrel
          have Ho := Lib.hid ho
          have Hb := Lib.hid hb
          have hsz := hb.size
          have hlt : (C ++ List.replicate t (0 : Int)).length = k1 + t := by rw [List.length_append, List.length_replicate, Hk1.out]
          have Hlt := Lib.hid hlt
          clear ho hb hlt
          skip
          by_cases hle : k1 + t ≤ k
          · have hli : ((k1 + t : Nat) : Int) ≤ (k : Int) := by omega
            have hli2 : (k1 : Int) + (t : Int) ≤ (k : Int) := by omega
            go_wp2_with (at_builtin; refine wpList_pushI rfl (.tmp 33) (.tmp 34) rfl w1.heap.size (.slice A1 (k1 + t) c1) (C ++ List.replicate t 0) rfl (Ho.out.alloc _) wr.heap.size 1 0 rfl ((Blk.new _ _ _).cell 0) (by rw [Hlt.out]; omega) (by simp; omega) (wr.heap.size + 1) (by simp) ?_; intro g' cap w4 ho' hgr hg' hlt'; have Hb4 := Lib.hid (((Ho.out.alloc (.cells #[I 0] 2)).bel (Hb.out.alloc hsz _) hgr (Nat.le_refl _) (by simp; omega))); rw [Hlt.out] at ho' ⊢; have Ho4 : Hid (OwI 2 w4 w1.heap.size (.slice (some ⟨g', 0, none⟩) (k1 + (t + 1)) cap) (C ++ List.replicate (t + 1) 0)) := (by rw [List.append_assoc, show List.replicate t (0 : Int) ++ [0] = List.replicate (t + 1) 0 from (List.replicate_succ').symm] at ho'; exact ho'); clear ho' hgr hg' hlt')
            go_roundw
            case rel => exact ⟨t + 1, some ⟨g', 0, none⟩, cap, by first | rfl | (simp; omega), by omega, Ho4.out, Hb4.out⟩
            case measure => simp [slen]; omega
          · have hli : ¬ ((k1 + t : Nat) : Int) ≤ (k : Int) := by omega
            have hli2 : ¬ (k1 : Int) + (t : Int) ≤ (k : Int) := by omega
            have hte : t = k + 1 - k1 := by omega
            have Hst : Hid (cntStep C k = (C ++ List.replicate t 0).set k (gi (C ++ List.replicate t 0) k + 1)) := by show _ = _; unfold cntStep; rw [Hk1.out, ← hte]
            obtain ⟨g, c', he, hgB, hgl, e1, z1, hs⟩ := Ho.out.spot (k := k) (by rw [Hlt.out]; omega)
            rw [Hlt.out] at he
            injection he with he1 _ he2
            subst he1 he2
            rw [gi_pad] at e1
            have Hs := Lib.hid hs
            have hgp := gi_pad C t k
            have Hgp := Lib.hid hgp
            obtain ⟨x, hx⟩ : ∃ x, x = gi C k := ⟨_, rfl⟩
            rw [← hx] at e1 hg0 hg1 Hgp
            have hki : (k : Int) < ((k1 + t : Nat) : Int) := by omega
            have hki2 : (k : Int) < (k1 : Int) + (t : Int) := by omega
            have Ho5 : Hid (OwI 2 (wr.setCell ⟨g, k, none⟩ (I (x + 1))) w1.heap.size (.slice (some ⟨g, 0, none⟩) (k1 + t) c1) (cntOf (ks.take (q + 1)))) := by
              show OwI _ _ _ _ _
              rw [Hcs.out, Hst.out, Hgp.out]
              exact Hs.out (x + 1)
            have Hb5 : Hid (Below w1.heap.size w1 (wr.setCell ⟨g, k, none⟩ (I (x + 1)))) := Hb.out.setCell (by exact hgB) _
            clear hs hgp hx
            go_wp2_with fail
            go_roundw
            case rel => exact ⟨q + 1, by go_num, by omega, Hb5.out, Ho5.out⟩
            case measure => simp [intOf]; omega
      · obtain rfl : q = N := by omega
        have hqi : ¬ ((q : Int) < (q : Int)) := by omega
        have htk : ks.take q = ks := List.take_of_length_le (by rw [Hks.out]; exact Nat.le_refl _)
        rw [htk, ← HR.out] at Hk1 Ho
        have Hbe := Lib.hid (Hb1.out.trans (Hb.out.mono hz1))
        clear htk
        go_wp2_with fail
        go_ret2
        exact .mk _ (by rw [Hc.out] <;> rfl) (Ho.out.mono hz1) Hbe.out
  · have hR := slR_out hc
    have HR := Lib.hid hR
    have Hcc := Lib.hid hcc
    obtain ⟨p0, p4⟩ := elC_p hc
    have hne : (elC ms [] != 0) = true := by simpa using hc
    clear hc hcc hR
    go_enter Try.func47, Try.ntmps47
    go_wp2_with fail
    refine (monoidOf_any A none n c 0 0 ms [] _ Hx.out Rd.nil_ Hn.out rfl HA.out (fun _ => ⟨rfl, rfl⟩) (by omega)).mono ?_
    rintro e w1 ⟨r, v, rfl, hb1, hr0, hs⟩
    rw [Hcc.out]
    have Hb1 := Lib.hid hb1
    clear hs hb1 hr0
    go_wp2
    go_ret2
    exact .mk _ rfl (by rw [HR.out]; exact OwI.nil_) Hb1.out
end Go.Proofs.Ytknknljkmkfmoaa
