/- Contracts of CountClasses on both sides; the lists are as each theorem states. -/
import Derived.Test.YtneonacdjmfaoaaJ6
namespace Go.Proofs.Ytneonacdjmfaoaa
open Go.RowKit
set_option maxRecDepth 100000
set_option linter.unusedSimpArgs false
set_option linter.unusedVariables false

def ccL (E : List M) (q : Nat) : List Int := (List.range q).map fun (k : Nat) => cntK E k
theorem ccL_len (E : List M) (q : Nat) : (ccL E q).length = q := by simp [ccL]
theorem ccL_step (E : List M) (q : Nat) : ccL E (q + 1) = ccL E q ++ [cntK E q] := by simp [ccL, List.range_succ]
def ccR (ms : List M) : List Int := if monC ms [] = 0 then ccL (elR ms []) 4 else []
theorem ccR_len (ms : List M) : (ccR ms).length ≤ 4 := by unfold ccR; split <;> simp [ccL]
theorem cls_bd (E : List M) (kind : Int) {N : Nat} (hn : E.length = N) (hN : N ≤ 300) : ∀ j, j < N → 0 ≤ gi (clsK E kind) j ∧ gi (clsK E kind) j ≤ 300 := by
  subst hn
  intro j hj
  have h1 := clsK_val E kind hj
  have h2 := cntK_bd E kind
  omega
theorem cls_mx (E : List M) (kind : Int) {N : Nat} (hn : E.length = N) : mxT (clsK E kind) N + 1 = cntK E kind := by
  subst hn
  exact mxT_nm _ _

set_option maxHeartbeats 1000000 in
theorem SpecCC_any (A : Option Addr) (n c : Nat) (ms : List M) (w : World) (hx : RdM w w.heap.size A ms) (hn : ms.length = n) (hb : n < 1073741824) :
    Calls Try.prog 29 #[.slice A n c] w (RetSI (ccR ms) (monC ms []) w) := by
  have Hx := Lib.hid hx
  have Hn := Lib.hid hn
  clear hx hn
  by_cases hm : monC ms [] = 0
  · obtain ⟨E, ps, hE, _⟩ := monC_el hm
    have hR : ccR ms = ccL E 4 := by unfold ccR; rw [if_pos hm, hE.r]
    have hG : gR ms [] = E := by unfold gR; rw [if_pos hm, hE.r]
    have hlen := hE.len
    have hn6 := hE.n6
    obtain ⟨N, hN⟩ : ∃ N, E.length = N := ⟨_, rfl⟩
    rw [hN] at hlen
    have HR := Lib.hid hR
    have HG := Lib.hid hG
    have HN := Lib.hid hN
    have HE := Lib.hid hE
    have Hm := Lib.hid hm
    have hn6' : n ≤ 6 := by rw [← Hn.out]; exact hn6
    clear hE hR hG hN hm hn6
    go_enter Try.func29, Try.ntmps29
    go_wp2_with fail
    refine (l03Given_any A none n c 0 0 ms [] w Hx.out Rd.nil_ Hn.out rfl hb (by decide)).mono ?_
    rintro e w2 ⟨A', c', v, rfl, hr, hv, hb2⟩
    rw [HG.out] at hr ⊢
    rw [Hm.out, HN.out]
    obtain ⟨Av, cv, hvv, _⟩ := hv.form
    subst hvv
    have Hr := Lib.hid hr
    have Hb2 := Lib.hid hb2
    have hz2 := hb2.size
    clear hr hv hb2
    go_wp2_with fail
    go_loopw [7, 8] (fun v k wr => ∃ q : Nat, k = .int .i64 q ∧ q ≤ 4 ∧ Below w2.heap.size w2 wr ∧ OwI 2 wr w2.heap.size v (ccL E q)) (fun _ k _ => 4 - (intOf k).toNat)
    case atStart => exact ⟨0, rfl, by omega, (Below.refl _ _).alloc (Nat.le_refl _) _, OwI.made (Nat.le_refl _)⟩
    case round =>
      obtain ⟨q, rfl, hq, hb', ho⟩ := hrel
      have hql := ccL_len E q
      obtain ⟨A1, c1, hv, _⟩ := ho.form
      rw [hql] at hv
      subst hv
      have Hb := Lib.hid (Hb2.out.trans (hb'.mono hz2))
      have Hbr := Lib.hid hb'
      have Ho := Lib.hid ho
      have hsz := Hb.out.size
      have hszr := hb'.size
      clear hb' ho
      by_cases hq4 : q < 4
      · have hqz : (q : Int) < 4 := by omega
        have Hk : Hid (inR (q : Int) 0 3 = true) := by show _ = _; unfold inR; rw [decide_eq_true (by omega), decide_eq_true (by omega)]; rfl
        have Hst := Lib.hid (ccL_step E q)
        go_wp2_with fail
        refine (l03Kind_any A' N c' E A n c ms q Hk.out wr (Rd.more (Rd.below Hr.out Hbr.out) hszr) HN.out (Rd.more (Rd.below Hx.out Hb.out) hsz) Hn.out hlen hn6' HE.out.mnd HE.out.mem HE.out.G).mono ?_
        rintro e w3 ⟨v, rfl, ho3, hb3⟩
        obtain ⟨A3, c3, hv3, hr3⟩ := ho3.form
        rw [clsK_length, HN.out] at hv3
        subst hv3
        have H3 := Lib.hid hr3
        have Hb3 := Lib.hid (Hbr.out.trans (hb3.mono hszr))
        have Ho3 := Lib.hid (Ho.out.below hb3 (Nat.le_refl _))
        have hz3 := hb3.size
        clear ho3 hr3 hb3 Hb Hbr Ho
        go_wp2_with fail
        refine (l03Number_any A3 N c3 (clsK E q) w3 H3.out (by rw [clsK_length, HN.out]) hlen (cls_bd E q HN.out hlen)).mono ?_
        rintro e w4 ⟨rfl, hb4⟩
        rw [cls_mx E q HN.out]
        have Hb4 := Lib.hid (Hb3.out.trans (hb4.mono (by omega)))
        have Ho4 := Lib.hid (Ho3.out.below hb4 (Nat.le_refl _))
        have hz4 := hb4.size
        obtain ⟨z, hz⟩ : ∃ z, z = cntK E q := ⟨_, rfl⟩
        rw [← hz] at Hst ⊢
        clear hb4 Hb3 Ho3 hz
        go_wp2_with (at_builtin; refine wpList_pushI rfl (.tmp 23) (.tmp 29) rfl w2.heap.size (.slice A1 q c1) (ccL E q) rfl (Ho4.out.alloc _) w4.heap.size 1 z rfl ((Blk.new _ _ _).cell 0) (by rw [hql]; omega) (by simp; omega) (w4.heap.size + 1) (by simp) ?_; intro g' cap w5 ho' hgr hg' hlt'; have Hb5 := Lib.hid ((Ho4.out.alloc (.cells #[I z] 2)).bel (Hb4.out.alloc (by omega) _) hgr (Nat.le_refl _) (by simp; omega)); have Ho5 := Lib.hid ho'; rw [hql] at Ho5; clear ho' hgr hg' hlt')
        go_roundw
        case rel => exact ⟨q + 1, by go_num, by omega, Hb5.out, by rw [Hst.out]; exact Ho5.out⟩
        case measure => simp [intOf]; omega
      · obtain rfl : q = 4 := by omega
        have hqz : ¬ ((4 : Int) < 4) := by omega
        have Hro := Lib.hid Ho.out.rdA
        go_wp2_with fail
        go_ret2
        exact .mk A1 c1 (by rw [HR.out, ccL_len, Hm.out] <;> rfl) (by rw [HR.out]; exact Hro.out) Hb.out
  · have hR : ccR ms = [] := if_neg hm
    have hne : (monC ms [] != 0) = true := by simpa using hm
    have HR := Lib.hid hR
    clear hR hm
    go_enter Try.func29, Try.ntmps29
    go_wp2_with fail
    refine (l03Given_any A none n c 0 0 ms [] w Hx.out Rd.nil_ Hn.out rfl hb (by decide)).mono ?_
    rintro e w2 ⟨A', c', v, rfl, hr, hv, hb2⟩
    obtain ⟨Av, cv, hvv, _⟩ := hv.form
    subst hvv
    have Hb2 := Lib.hid hb2
    clear hr hv hb2
    go_wp2_with fail
    go_ret2
    exact .mk none 0 (by rw [HR.out] <;> rfl) (by rw [HR.out]; exact Rd.nil_) Hb2.out

set_option maxHeartbeats 1000000 in
theorem ImplCC_any (A : Option Addr) (n c : Nat) (ms : List M) (w : World) (hx : RdM w w.heap.size A ms) (hn : ms.length = n) (hA : A = none → n = 0 ∧ c = 0) (hb : n < 536870912) :
    Calls Try.prog 30 #[.slice A n c] w (RetI (ccR ms) (monC ms []) w) := by
  have Hx := Lib.hid hx
  have Hn := Lib.hid hn
  have HA := Lib.hid hA
  clear hx hn hA
  by_cases hm : monC ms [] = 0
  · obtain ⟨E, ps, hE, _⟩ := monC_el hm
    have hR : ccR ms = ccL E 4 := by unfold ccR; rw [if_pos hm, hE.r]
    have hlen := hE.len
    have hpos := hE.pos
    obtain ⟨N, hN⟩ : ∃ N, E.length = N := ⟨_, rfl⟩
    rw [hN] at hlen hpos
    have HR := Lib.hid hR
    have HN := Lib.hid hN
    have HE := Lib.hid hE
    have Hm := Lib.hid hm
    clear hE hR hm hN
    go_enter Try.func30, Try.ntmps30
    go_wp2_with fail
    refine (monoidOf_any A none n c 0 0 ms [] w Hx.out Rd.nil_ Hn.out rfl HA.out (fun _ => ⟨rfl, rfl⟩) (by omega)).mono ?_
    rintro e w3 ⟨r, v, rfl, hb3, hr0, hs⟩
    obtain ⟨g0, rfl, hM, hv⟩ := hs ps HE.out.clo Hm.out
    rw [← HE.out.eq] at hM
    rw [Hm.out]
    obtain ⟨Av, cv, hvv, hrv⟩ := hv.form
    subst hvv
    have HM := Lib.hid hM
    have Hb3 := Lib.hid hb3
    have hz3 := hb3.size
    clear hM hs hr0 hv hrv hb3
    go_wp2_with fail
    refine (ideals_any w3 HM.out HE.out.len HE.out.mnd).mono ?_
    rintro e w4 ⟨d, rfl, hI, hb4⟩
    have HI := Lib.hid hI
    have Hb4 := Lib.hid (Hb3.out.trans (hb4.mono hz3))
    have hz4 := Hb4.out.size
    clear hI hb4
    go_wp2_with fail
    go_loopw [8, 9] (fun v k wr => ∃ q : Nat, k = .int .i64 q ∧ q ≤ 4 ∧ Below w4.heap.size w4 wr ∧ OwI 2 wr w4.heap.size v (ccL E q)) (fun _ k _ => 4 - (intOf k).toNat)
    case atStart => exact ⟨0, rfl, by omega, Below.refl _ _, OwI.nil_⟩
    case round =>
      obtain ⟨q, rfl, hq, hb', ho⟩ := hrel
      have hql := ccL_len E q
      obtain ⟨A1, c1, hv, _⟩ := ho.form
      rw [hql] at hv
      subst hv
      have Hb := Lib.hid hb'
      have Ho := Lib.hid ho
      have hsz := hb'.size
      clear hb' ho
      by_cases hq4 : q < 4
      · have hqz : (q : Int) ≤ 3 := by omega
        have Hst := Lib.hid (ccL_step E q)
        go_wp2_with fail
        refine (classes_any wr (HI.out.below Hb.out (Nat.le_refl _)) HE.out.len HE.out.mnd).mono ?_
        rintro e w5 ⟨v, rfl, ho3, hb5⟩
        obtain ⟨A3, c3, hv3, hr3⟩ := ho3.form
        rw [clsK_length, HN.out] at hv3
        subst hv3
        have H3 := Lib.hid hr3
        have Hb5 := Lib.hid (Hb.out.trans (hb5.mono hsz))
        have Ho5 := Lib.hid (Ho.out.below hb5 (Nat.le_refl _))
        have hz5 := hb5.size
        clear ho3 hr3 hb5 Hb Ho
        go_wp2_with fail
        refine (many_any A3 N c3 (clsK E q) w5 H3.out (by rw [clsK_length, HN.out]) hpos hlen (cls_bd E q HN.out hlen)).mono ?_
        rintro e w6 ⟨rfl, hb6⟩
        rw [cls_mx E q HN.out]
        have Hb6 := Lib.hid (Hb5.out.trans (hb6.mono (by omega)))
        have Ho6 := Lib.hid (Ho5.out.below hb6 (Nat.le_refl _))
        have hz6 := hb6.size
        obtain ⟨z, hz⟩ : ∃ z, z = cntK E q := ⟨_, rfl⟩
        rw [← hz] at Hst ⊢
        clear hb6 Hb5 Ho5 hz
        go_wp2_with (at_builtin; refine wpList_pushI rfl (.tmp 25) (.tmp 30) rfl w4.heap.size (.slice A1 q c1) (ccL E q) rfl (Ho6.out.alloc _) w6.heap.size 1 z rfl ((Blk.new _ _ _).cell 0) (by rw [hql]; omega) (by simp; omega) (w6.heap.size + 1) (by simp) ?_; intro g' cap w7 ho' hgr hg' hlt'; have Hb7 := Lib.hid ((Ho6.out.alloc (.cells #[I z] 2)).bel (Hb6.out.alloc (by omega) _) hgr (Nat.le_refl _) (by simp; omega)); have Ho7 := Lib.hid ho'; rw [hql] at Ho7; clear ho' hgr hg' hlt')
        go_roundw
        case rel => exact ⟨q + 1, by go_num, by omega, Hb7.out, by rw [Hst.out]; exact Ho7.out⟩
        case measure => simp [intOf]; omega
      · obtain rfl : q = 4 := by omega
        have hqz : ¬ ((4 : Int) ≤ 3) := by omega
        have Hbe := Lib.hid (Hb4.out.trans (Hb.out.mono hz4))
        have Hoe := Lib.hid (Ho.out.mono hz4)
        go_wp2_with fail
        go_ret2
        exact .mk _ (by rw [Hm.out] <;> rfl) (by rw [HR.out]; exact Hoe.out) Hbe.out
  · have hR : ccR ms = [] := if_neg hm
    have hne : (monC ms [] != 0) = true := by simpa using hm
    have HR := Lib.hid hR
    have Hm := Lib.hid hm
    clear hR hm
    go_enter Try.func30, Try.ntmps30
    go_wp2_with fail
    refine (monoidOf_any A none n c 0 0 ms [] w Hx.out Rd.nil_ Hn.out rfl HA.out (fun _ => ⟨rfl, rfl⟩) (by omega)).mono ?_
    rintro e w3 ⟨r, v, rfl, hb3, hr0, hs⟩
    obtain ⟨rfl, rfl⟩ := hr0 Hm.out
    have Hb3 := Lib.hid hb3
    clear hs hr0 hb3
    go_wp2_with fail
    go_ret2
    exact .mk _ rfl (by rw [HR.out]; exact OwI.nil_) Hb3.out
end Go.Proofs.Ytneonacdjmfaoaa
