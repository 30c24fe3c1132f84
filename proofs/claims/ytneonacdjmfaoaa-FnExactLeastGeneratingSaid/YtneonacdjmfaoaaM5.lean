/- Contract of LeastGenerating of the reference; the lists are as the theorem states. -/
import Derived.Test.YtneonacdjmfaoaaM4
import Derived.Test.YtneonacdjmfaoaaN13
namespace Go.Proofs.Ytneonacdjmfaoaa
open Go.RowKit
set_option maxRecDepth 100000
set_option linter.unusedSimpArgs false
set_option linter.unusedVariables false

set_option maxHeartbeats 4000000 in
theorem SpecLG_any (A : Option Addr) (n c : Nat) (ms : List M) (w : World) (hx : RdM w w.heap.size A ms) (hn : ms.length = n) (hb : n < 1073741824) :
    Calls Try.prog 11 #[.slice A n c] w (RetSI (lgR ms) (monC ms []) w) := by
  have Hx := Lib.hid hx
  have Hn := Lib.hid hn
  have Hmn := Lib.hid (monC_nil ms)
  clear hx hn
  by_cases hm : monC ms [] = 0
  · obtain ⟨E, ps, hE, _⟩ := monC_el hm
    have hlen := hE.len
    have hpos := hE.pos
    have hn1 := hE.n1
    have hn6 := hE.n6
    have hp1 := hE.p1
    have hp5 := hE.p5
    rw [Hn.out] at hn1 hn6
    obtain ⟨N, hN⟩ : ∃ N, E.length = N := ⟨_, rfl⟩
    rw [hN] at hlen hpos
    obtain ⟨p, hp⟩ : ∃ p, p = (gm ms 0).p := ⟨_, rfl⟩
    rw [← hp] at hp1 hp5
    obtain ⟨G, hG⟩ : ∃ G, G = lgG ms p N := ⟨_, rfl⟩
    have hR : lgR ms = leastS G n := by
      unfold lgR
      rw [if_pos hm, hE.r, hN, ← hp, ← hG, Hn.out]
      refine least_eq G (by omega) ?_
      have := lgG_full hE
      rw [Hn.out, ← hp, hN, ← hG] at this
      exact this
    have hclo : clo ms p = some ps := by rw [hp]; exact hE.clo
    have hPG : Pts p ms := by rw [hp]; exact hE.G
    have Hclo := Lib.hid hclo
    have HPG := Lib.hid hPG
    have HR := Lib.hid hR
    have HN := Lib.hid hN
    have HE := Lib.hid hE
    have Hm := Lib.hid hm
    have Hp := Lib.hid hp
    have HG := Lib.hid hG
    have Hr0 := Lib.hid hE.r
    clear hE hR hm hN hp hG hclo hPG
    go_enter Try.func11, Try.ntmps11
    go_wp2_with fail
    refine (l02Elements_any A none n c 0 0 ms [] w Hx.out Rd.nil_ Hn.out rfl hb (by decide)).mono ?_
    rintro e w1 ⟨A', c', rfl, hr, hb1⟩
    rw [← Hmn.out, Hm.out, Hr0.out, HN.out]
    have Hb1 := Lib.hid hb1
    have hz1 := hb1.size
    clear hr hb1
    go_wp2_with fail
    go_loopw [6] (fun t wr => ∃ q : Nat, t = .int .i64 q ∧ q ≤ n ∧ Below w1.heap.size w1 wr ∧ Hid (∀ S ∈ partsBelow n q, G S = false)) (fun t _ => n - (intOf t).toNat)
    case atStart => exact ⟨0, rfl, by omega, Below.refl _ _, fun S hS => by simp [partsBelow] at hS⟩
    case round =>
      obtain ⟨q, rfl, hq, hbr, Hno⟩ := hrel
      have Hbr := Lib.hid hbr
      have hszr := hbr.size
      clear hbr
      by_cases hqn : q < n
      · have hqz : (q : Int) < (n : Int) := by omega
        go_wp2_with fail
        have hpt := l02Parts_any n (by omega) q (by omega) 0 (by omega) wr
        refine hpt.mono ?_
        rintro e w2 ⟨v, vs, rfl, ho2, hr2, hb2⟩
        have hvl := hr2.1
        obtain ⟨K, hK⟩ : ∃ K, (parts n 0 q).length = K := ⟨_, rfl⟩
        have hK64 : K ≤ 64 := by rw [← hK]; exact parts_len ⟨n, by omega⟩ ⟨0, by omega⟩ ⟨q, by omega⟩
        rw [hK] at hvl
        obtain ⟨Av, cv, hv, _⟩ := ho2.form
        rw [hvl] at hv
        subst hv
        have HK := Lib.hid hK
        have Hvl := Lib.hid hvl
        have Ho2 := Lib.hid ho2
        have Hr2 := Lib.hid hr2
        have Hb2 := Lib.hid (Hbr.out.trans (hb2.mono hszr))
        have hz2 := Hb2.out.size
        clear hpt ho2 hr2 hb2 hK hvl
        go_wp2_with fail
        go_loopw [8] (fun t wq => ∃ i : Nat, t = .int .i64 i ∧ i ≤ K ∧ Below w2.heap.size w2 wq ∧ Hid (∀ j, j < i → G ((parts n 0 q).getD j []) = false)) (fun t _ => K - (intOf t).toNat)
        case atStart => exact ⟨0, rfl, by omega, Below.refl _ _, fun j hj => by omega⟩
        case round =>
          obtain ⟨i, rfl, hi, hbi, Hni⟩ := hrel
          have Hbi := Lib.hid hbi
          have hzi := hbi.size
          clear hbi
          by_cases hiK : i < K
          · have hiz : (i : Int) < (K : Int) := by omega
            obtain ⟨S, hS⟩ : ∃ S, S = (parts n 0 q).getD i [] := ⟨_, rfl⟩
            have hSl : S.length = q := by rw [hS]; exact parts_row (by omega) (by omega) (by omega) (by rw [HK.out]; exact hiK)
            have hSo : ∀ z ∈ S, 0 ≤ z ∧ z < n := by rw [hS]; exact parts_lt (by omega) (by omega) (by rw [HK.out]; exact hiK)
            obtain ⟨hrow, _⟩ := Hr2.out.2 i (by rw [HK.out]; exact hiK)
            rw [← hS] at hrow
            obtain ⟨A5, c5, hv5, _⟩ := hrow.form
            rw [hSl] at hv5
            rw [hv5] at hrow
            have HrS := Lib.hid hrow.rdB
            have Hv5 := Lib.hid hv5
            have HSl := Lib.hid hSl
            have HSo := Lib.hid hSo
            have HS := Lib.hid hS
            obtain ⟨bp, op, rfl, hbp, _⟩ := RdV.at_ (OwV.rdA' Ho2.out) (k := i) (by rw [Hvl.out]; exact hiK)
            have HPr := Lib.hid (OwV.rdA' Ho2.out)
            clear hrow hv5 hSl hSo hS
            go_wp2_with fail
            obtain ⟨B3, hB3⟩ : ∃ B3, B3 = wr.heap.size := ⟨_, rfl⟩
            go_loopw [9, 10] (fun v t wq => ∃ j : Nat, t = .int .i64 j ∧ j ≤ q ∧ Below wr.heap.size wr wq ∧ OwM 39 wq B3 v (sel ms (S.take j))) (fun _ t _ => q - (intOf t).toNat)
            case atStart => exact ⟨0, rfl, by omega, (Below.refl _ _).alloc (Nat.le_refl _) _, OwM.made (by omega)⟩
            case round =>
              obtain ⟨j, rfl, hj, hbj, hoj⟩ := hrel
              have Hbj := Lib.hid hbj
              have Hoj := Lib.hid hoj
              have Hb2j := Lib.hid (Hbi.out.trans (hbj.mono hzi))
              have Hbw := Lib.hid ((Hb1.out.trans (Hb2.out.mono hz1)).trans (Hb2j.out.mono (by omega)))
              have hzj := hbj.size
              have x7 := RdV.at0' (Rd.below HPr.out Hb2j.out) (k := i) (by rw [Hvl.out]; exact hiK)
              rw [Hv5.out] at x7
              clear hbj hoj
              by_cases hjs : j < q
              · have hjz : (j : Int) < (q : Int) := by omega
                have hz := HSo.out (gi S j) (gi_mem' (by rw [HSl.out]; exact hjs))
                obtain ⟨z, hzn⟩ : ∃ z : Nat, (z : Int) = gi S j := ⟨(gi S j).toNat, by omega⟩
                have hzl : z < n := by omega
                have hzz : (z : Int) < (n : Int) := by omega
                obtain ⟨b5, o5, rfl, hb5', _⟩ := RdI.at_ HrS.out (k := j) (by rw [HSl.out]; exact hjs)
                have x5 := RdI.at0' (Rd.below HrS.out Hb2j.out) (k := j) (by rw [HSl.out]; exact hjs)
                rw [← hzn] at x5
                obtain ⟨b6, o6, rfl, hb6, h6⟩ := RdM.at_ (Rd.below Hx.out Hbw.out) (k := z) (by rw [Hn.out]; exact hzl)
                obtain ⟨y, hy⟩ : ∃ y, y = gm ms z := ⟨_, rfl⟩
                rw [← hy] at h6
                have Htk : Hid (sel ms (S.take (j + 1)) = sel ms (S.take j) ++ [y]) := by show _ = _; rw [sel_take ms _ (by rw [HSl.out]; exact hjs), hy, ← hzn]; rfl
                obtain ⟨x0, x1, x2, x3, x4, x6⟩ := h6
                obtain ⟨K5, hK5⟩ : ∃ K5, (sel ms (S.take j)).length = K5 := ⟨_, rfl⟩
                have hK6 : K5 ≤ 6 := by rw [← hK5, sel_length, List.length_take]; omega
                obtain ⟨A8, c8, hv8, _⟩ := Hoj.out.form
                rw [hK5] at hv8
                subst hv8
                have HK5 := Lib.hid hK5
                clear hz hzn hy hK5
                go_wp2_with (at_builtin; refine wpList_pushM rfl (.tmp 44) (.tmp 55) rfl B3 (.slice A8 K5 c8) (sel ms (S.take j)) rfl (Hoj.out.alloc _) K5 HK5.out wr.heap.size 1 y rfl (Blk.six (Blk.new _ _ _)) (by omega) (by simp; omega) (wr.heap.size + 1) (by simp) ?_; intro g' cap w9 ho' hgr hg' hlt'; have Hb9 := Lib.hid ((Hoj.out.alloc (.cells (mc y) 39)).bel (Hbj.out.alloc (by omega) _) hgr (by omega) (by simp; omega)); have Ho9 := Lib.hid ho'; clear ho' hgr hg' hlt')
                go_roundw
                case rel => exact ⟨j + 1, by go_num, by omega, Hb9.out, by rw [Htk.out]; exact Ho9.out⟩
                case measure => simp [intOf]; omega
              · obtain rfl : j = q := by omega
                have hjz : ¬ ((j : Int) < (j : Int)) := by omega
                have htk : S.take j = S := List.take_of_length_le (by rw [HSl.out]; exact Nat.le_refl _)
                rw [htk] at Hoj
                have hsub := sel_sub (ms := ms) (S := S) (by rw [Hn.out]; exact HSo.out)
                obtain ⟨qs, hqs⟩ := clo_sub (gens := sel ms S) (gens' := ms) Hclo.out hsub
                have hGd : G S = decide (qs.length = N) := by rw [HG.out]; unfold lgG; rw [hqs]
                obtain ⟨A8, c8, hv8, _⟩ := Hoj.out.form
                rw [sel_length, HSl.out] at hv8
                subst hv8
                obtain ⟨b6, o6, rfl, hb6, h6⟩ := RdM.at_ (Rd.below Hx.out Hbw.out) (k := 0) (by rw [Hn.out]; omega)
                obtain ⟨x0, _, _, _, _, _⟩ := h6
                rw [Nat.zero_mul, Nat.add_zero, ← Hp.out] at x0
                have hn0 : (0 : Int) < (n : Int) := by omega
                have hPts : Pts p (sel ms S) := fun g hg => HPG.out g (hsub g hg)
                have HPts := Lib.hid hPts
                have HGd := Lib.hid hGd
                have Hqs := Lib.hid hqs
                clear htk hsub hPts hGd hqs
                go_wp2_with fail
                refine (l02Closed_any A8 j c8 (sel ms S) p wr Hoj.out.rdA (by rw [sel_length, HSl.out]) (by omega) hp1 hp5 HPts.out).mono ?_
                rintro e w9 ⟨v1, v2, rfl, hb9, hsome⟩
                have hO9 := (hsome qs Hqs.out).1
                rw [Hqs.out, show (some qs : Option Met).isSome = true from rfl]
                obtain ⟨A9, c9, hv9, _⟩ := hO9.form
                rw [List.length_map] at hv9
                obtain ⟨N9, hN9⟩ : ∃ N9, qs.length = N9 := ⟨_, rfl⟩
                rw [hN9] at hv9 HGd
                subst hv9
                have Hb9 := Lib.hid (Hb2j.out.trans (hb9.mono (by omega)))
                have y7 := RdV.at0' (Rd.below HPr.out Hb9.out) (k := i) (by rw [Hvl.out]; exact hiK)
                rw [Hv5.out] at y7
                clear hsome hO9 hN9 x0 x7 hb9
                by_cases hNN : N9 = N
                · have HF : Hid (lgR ms = S) := by
                    show _ = _
                    rw [HR.out, HS.out]
                    exact least_found hqn Hno.out (by rw [HK.out]; exact hiK) Hni.out (by rw [← HS.out, HGd.out]; exact decide_eq_true hNN)
                  have Hbe := Lib.hid ((Hb1.out.trans (Hb2.out.mono hz1)).trans (Hb9.out.mono (by omega)))
                  have HrE := Lib.hid (Rd.more (Rd.below HrS.out Hb9.out) Hb9.out.size)
                  subst hNN
                  go_wp2_with fail
                  go_ret2
                  exact .mk A5 c5 (by rw [HF.out, HSl.out, Hm.out] <;> rfl) (by rw [HF.out]; exact HrE.out) Hbe.out
                · have Hn2 : Hid (∀ k, k < i + 1 → G ((parts n 0 j).getD k []) = false) := fun k hk => by
                    by_cases e : k = i
                    · subst e; rw [← HS.out, HGd.out]; exact decide_eq_false hNN
                    · exact Hni.out k (by omega)
                  clear y7
                  go_wp2_with fail
                  go_roundw
                  case rel => exact ⟨i + 1, by go_num, by omega, Hb9.out, Hn2⟩
                  case measure => simp [intOf]; omega
          · obtain rfl : i = K := by omega
            have hiz : ¬ ((i : Int) < (i : Int)) := by omega
            have Hno2 : Hid (∀ S ∈ partsBelow n (q + 1), G S = false) := below_none Hno.out (by rw [HK.out]; exact Hni.out)
            have Hbn := Lib.hid (Hb2.out.trans (Hbi.out.mono hz2))
            go_wp2_with fail
            go_roundw
            case rel => exact ⟨q + 1, by go_num, by omega, Hbn.out, Hno2⟩
            case measure => simp [intOf]; omega
      · obtain rfl : q = n := by omega
        have hqz : ¬ ((q : Int) < (q : Int)) := by omega
        have HF : Hid (lgR ms = fullL q) := by show _ = _; rw [HR.out]; exact least_none Hno.out
        have Hbw := Lib.hid (Hb1.out.trans (Hbr.out.mono hz1))
        go_wp2_with fail
        have hpt := l02Parts_any q (by omega) q (by omega) 0 (by omega) wr
        refine hpt.mono ?_
        rintro e w2 ⟨v, vs, rfl, ho2, hr2, hb2⟩
        have hfull := parts_full ⟨q, by omega⟩
        simp only at hfull
        rw [hfull] at hr2
        obtain ⟨hrow, _⟩ := hr2.2 0 (by simp)
        have hvl := hr2.1
        rw [List.length_singleton] at hvl
        obtain ⟨Av, cv, hv, _⟩ := ho2.form
        rw [hvl] at hv
        subst hv
        obtain ⟨bp, op, rfl, hbp, x7⟩ := RdV.at_ (OwV.rdA' ho2) (k := 0) (by rw [hvl]; exact Nat.zero_lt_one)
        obtain ⟨A5, c5, hv5, _⟩ := hrow.form
        have hfl : (fullL q).length = q := by unfold fullL; rw [List.length_map, List.length_range]
        have hrow : OwI 2 w2 wr.heap.size (gv vs 0) (fullL q) := hrow
        rw [hv5] at hrow x7
        have HrE := Lib.hid hrow.rdB
        have Hbe := Lib.hid (Hbw.out.trans (hb2.mono (by omega)))
        rw [Nat.add_zero] at x7
        clear hpt ho2 hr2 hb2 hrow hv5
        go_wp2_with fail
        go_ret2
        exact .mk A5 c5 (by rw [HF.out, Hm.out, hfl] <;> rfl) (by rw [HF.out]; exact HrE.out) Hbe.out
  · have hR := lgR_bad hm
    have hne : (monC ms [] != 0) = true := by simpa using hm
    have HR := Lib.hid hR
    have Hr0 := Lib.hid (elR_bad (ms := ms) (xs := []) (by rw [← monC_nil]; exact hm))
    clear hR hm
    go_enter Try.func11, Try.ntmps11
    go_wp2_with fail
    refine (l02Elements_any A none n c 0 0 ms [] w Hx.out Rd.nil_ Hn.out rfl hb (by decide)).mono ?_
    rintro e w1 ⟨A', c', rfl, hr, hb1⟩
    rw [← Hmn.out, Hr0.out]
    have Hb1 := Lib.hid hb1
    clear hr hb1
    go_wp2_with fail
    go_ret2
    exact .mk none 0 (by rw [HR.out] <;> rfl) (by rw [HR.out]; exact Rd.nil_) Hb1.out
end Go.Proofs.Ytneonacdjmfaoaa
