/- Contracts of WordFor of the reference, and of SizesByLength of both sides; the lists are as each theorem states. -/
import Derived.Test.YtknknljkmkfmoaaN26
namespace Go.Proofs.Ytknknljkmkfmoaa
open Go.RowKit
set_option maxRecDepth 100000
set_option linter.unusedSimpArgs false

theorem SpecWordFor_any (A : Option Addr) (n c : Nat) (ms : List M) (f : M) (w : World) (hx : RdM w w.heap.size A ms) (hn : ms.length = n) (hb : n < 1073741824) :
    Calls Try.prog 39 #[.slice A n c, .agg (mc f)] w (RetSI (wfR ms f) (monC ms [f]) w) := by
  obtain ⟨wb, hwb⟩ : ∃ wb, wb = (w.alloc (.cells (mc f) 31)).alloc (.cells (mc f) 31) := ⟨_, rfl⟩
  have hbb : Below w.heap.size w wb := by rw [hwb]; exact ((Below.refl _ _).alloc (Nat.le_refl _) _).alloc (by simp) _
  have h6 : Six wb w.heap.size f := by rw [hwb]; exact Six.alloc (Blk.six (Blk.new w _ _)) _
  have h7 : RdM wb wb.heap.size (some ⟨w.heap.size + 1, 0, none⟩) [f] := by rw [hwb]; exact rd_one (Blk.six (Blk.new' _ _ _ (by simp)))
  have Hx := Lib.hid (Rd.more (Rd.below hx hbb) hbb.size)
  have Hn := Lib.hid hn
  have H6 := Lib.hid h6
  have H7 := Lib.hid h7
  have Hbb := Lib.hid hbb
  have Hwb := Lib.hid hwb
  have hlt := h6.lt
  clear hx hn h6 h7 hbb hwb
  by_cases hc : codeL ms [f] = 0
  · obtain ⟨q1, q2, q3, q4, q5, q6⟩ := codeL_pts' hc
    have Hc := Lib.hid hc
    have H3 := Lib.hid q3
    have hl1 : 0 < n := by have := Hn.out; omega
    obtain ⟨b, off, rfl, hbl, _⟩ := RdM.at_ Hx.out (k := 0) (by omega)
    clear hc q3
    go_enter Try.func39, Try.ntmps39
    go_wp2_with fail
    rw [← Hwb.out]
    refine (l02Given_any (some ⟨b, off, none⟩) (some ⟨w.heap.size + 1, 0, none⟩) n c 1 1 ms [f] wb Hx.out H7.out Hn.out rfl hb (by decide)).mono ?_
    rintro e w1 ⟨rfl, hb1⟩
    rw [Hc.out]
    have Hb1 := Lib.hid hb1
    obtain ⟨x0, _⟩ := (RdM.six (Rd.below Hx.out hb1) (k := 0) (by rw [Hn.out]; exact hl1)).1
    rw [Nat.zero_mul, Nat.add_zero] at x0
    have hz1 := hb1.size
    clear hb1
    go_wp2_with fail
    refine (l02Closed_any (some ⟨b, off, none⟩) n c ms (gm ms 0).p w1 (Rd.more (Rd.below Hx.out Hb1.out) hz1) Hn.out (by omega) q1 q2 H3.out).mono ?_
    rintro e w2 ⟨v1, v2, rfl, hb2', hsome⟩
    have Hb2 := Lib.hid (Hb1.out.trans (hb2'.mono hz1))
    have hz2 := hb2'.size
    clear x0
    cases hclo : clo ms (gm ms 0).p with
    | none =>
      have hmc := monC_none Hc.out hclo
      have hR := wfR_out (ms := ms) (f := f) (by rw [hmc]; decide)
      have HR := Lib.hid hR
      have Hmc := Lib.hid hmc
      have Hbe := Lib.hid (Hbb.out.trans (Hb2.out.mono Hbb.out.size))
      rw [show (none : Option Met).isSome = false from rfl]
      clear hsome hb2' hclo hmc hR
      go_wp2
      go_ret2
      exact .mk none 0 (by rw [Hmc.out, HR.out] <;> rfl) (by rw [HR.out]; exact Rd.nil_) Hbe.out
    | some ps =>
      obtain ⟨hO, vs, hW, hvl, hws⟩ := hsome ps hclo
      have hgd := (clo_good hclo).1
      have hlen := hgd.len
      obtain ⟨g1, c1, rfl⟩ := hO.some_ (by rw [List.length_map]; obtain ⟨qs, e, _⟩ := hgd.fst; rw [e]; simp)
      obtain ⟨g2, c2, rfl⟩ := hW.some_ (by rw [hvl]; obtain ⟨qs, e, _⟩ := hgd.fst; rw [e]; simp)
      rw [List.length_map] at hO ⊢
      rw [hvl] at hW ⊢
      have HO := Lib.hid hO.rd
      have HW := Lib.hid hW.rd
      have Hvl := Lib.hid hvl
      have Hws := Lib.hid hws
      have Hclo := Lib.hid hclo
      have Hgd := Lib.hid hgd
      have H62 := Lib.hid (H6.out.below Hb2.out hlt)
      rw [show (some ps : Option Met).isSome = true from rfl]
      clear hsome hb2' hclo hO hW hvl hws hgd
      go_wp2_with fail
      go_loopw [10] (fun i wr => ∃ q : Nat, i = .int .i64 q ∧ q ≤ ps.length ∧ Below w2.heap.size w2 wr ∧ ∀ j, j < q → (pm ps j).1 ≠ f) (fun i _ => ps.length - (intOf i).toNat)
      case atStart => exact ⟨0, rfl, by omega, Below.refl _ _, fun j hj => by omega⟩
      case round =>
        obtain ⟨q, rfl, hq, hb', hno⟩ := hrel
        have Hb' := Lib.hid hb'
        have Hno := Lib.hid hno
        have hz' := hb'.size
        clear hb' hno
        by_cases hqk : q < ps.length
        · have hqi : (q : Int) < (ps.length : Int) := by omega
          have h0 := (RdM.six (Rd.more (Rd.below HO.out Hb'.out) hz') (k := q) (by rw [List.length_map]; exact hqk))
          rw [Nat.zero_add] at h0
          obtain ⟨z, hzz⟩ : ∃ z, z = gm (ps.map (·.1)) q := ⟨_, rfl⟩
          rw [← hzz] at h0
          have H0 := Lib.hid h0.1
          have h0l := h0.2
          have heq := eqMap_run z f
          obtain ⟨d, hd⟩ : ∃ d, d = decide (z = f) := ⟨_, rfl⟩
          rw [← hd] at heq
          have Hd := Lib.hid hd
          have Hzz : Hid (z = (pm ps q).1) := by show _ = _; rw [hzz, pm_fst hqk]
          have HFr := Lib.hid (H62.out.below Hb'.out (by omega))
          have hfl : w.heap.size < wr.heap.size := by omega
          clear h0 hzz hd
          go_wp2_with fail
          refine wp_region_same [] rfl (by kernel_rfl) (by kernel_rfl) (by kernel_rfl) (fun w' => Below wr.heap.size wr w') _
            [.slice (some ⟨g1, 0, none⟩) ps.length c1, I q, .pointer (some ⟨g1, q * 6, none⟩), .agg (mc z), .agg (mc f), .bool d]
            (by simp only [putAll, List.setIfInBounds_toArray, List.set_cons_succ, List.set_cons_zero]; rfl) (Below.refl _ _).drew ?hop ?hQ
          case hop =>
            refine FixBL.toL (fun w' w'' hS hb => hS.trans (hb.mono hS.size)) _ _ ?_
            refine ⟨.inr ?_, .inr ?_, .inr ?_, .inr ?_, .inr ?_, .inr ?_, trivial⟩
            · (with_reducible refine FixB.of ?_ ?_; rfl; intro w' hS; have s0 := H0.out.below hS h0l; have s1 := HFr.out.below hS hfl; clear hS; unfold Oper.wp; go_simp; first | done | exact Below.refl _ _)
            · (with_reducible refine FixB.of ?_ ?_; rfl; intro w' hS; have s0 := H0.out.below hS h0l; have s1 := HFr.out.below hS hfl; clear hS; unfold Oper.wp; go_simp; first | done | exact Below.refl _ _)
            · (with_reducible refine FixB.of ?_ ?_; rfl; intro w' hS; have s0 := H0.out.below hS h0l; have s1 := HFr.out.below hS hfl; clear hS; unfold Oper.wp; go_simp; first | done | exact Below.refl _ _)
            · (with_reducible refine FixB.of ?_ ?_; rfl; intro w' hS; have s0 := H0.out.below hS h0l; have s1 := HFr.out.below hS hfl; clear hS; unfold Oper.wp; go_simp; first | done | exact Below.refl _ _)
            · (with_reducible refine FixB.of ?_ ?_; rfl; intro w' hS; have s0 := H0.out.below hS h0l; have s1 := HFr.out.below hS hfl; clear hS; unfold Oper.wp; go_simp; first | done | exact Below.refl _ _)
            · (with_reducible refine FixB.of ?_ ?_; rfl; intro w' hS; have s0 := H0.out.below hS h0l; have s1 := HFr.out.below hS hfl; clear hS; unfold Oper.wp; go_simp; first | done | exact Below.refl _ _)
          case hQ =>
          intro wc hS _
          have HB2 := Lib.hid hS
          clear hS
          have Hb3 := Lib.hid (Hb'.out.trans (HB2.out.mono hz'))
          clear heq H0 HFr
          cases d
          · have hne : z ≠ f := fun e => by have := Hd.out; simp [e] at this
            have Hne := Lib.hid hne
            clear hne
            go_wp2_with fail
            go_roundw
            case rel => exact ⟨q + 1, by go_num, by omega, Hb3.out, fun j hj => by
              by_cases e : j = q
              · rw [e, ← Hzz.out]; exact Hne.out
              · exact Hno.out j (by omega)⟩
            case measure => simp [intOf]; omega
          · have hzf : z = f := of_decide_eq_true Hd.out.symm
            have hin : f ∈ ps.map (·.1) := by rw [← hzf, Hzz.out]; exact List.mem_map_of_mem (pm_mem hqk)
            have hmc : monC ms [f] = 0 := monC_in Hc.out Hclo.out (by intro x hx; rw [List.mem_singleton.1 hx]; exact sortM_mem.2 hin)
            have hR : wfR ms f = (pm ps q).2 := by unfold wfR; rw [if_pos hmc, Hclo.out]; simp only; rw [← hzf, Hzz.out, wordOf_pm Hgd.out.nd hqk]
            have hwq := (Hws.out q hqk).below Hb3.out (Nat.le_refl _)
            obtain ⟨Au, cu, hvu, hru⟩ := hwq.form
            obtain ⟨b', o', e', _, hcw⟩ := RdV.at_ (Rd.more (Rd.below HW.out Hb3.out) Hb3.out.size) (k := q) (by rw [Hvl.out]; exact hqk)
            injection e' with e'
            injection e' with e1 e2 _
            subst e1 e2
            rw [Nat.zero_add, hvu] at hcw
            obtain ⟨k, hk⟩ : ∃ k, (pm ps q).2.length = k := ⟨_, rfl⟩
            rw [hk] at hcw
            have hru2 : RdI wc wc.heap.size Au (wfR ms f) := by rw [hR]; exact hru
            have hkl : (wfR ms f).length = k := by rw [hR, hk]
            have Hru := Lib.hid hru2
            have Hkl := Lib.hid hkl
            have Hmc := Lib.hid hmc
            have Hbe := Lib.hid (Hbb.out.trans ((Hb2.out.trans (Hb3.out.mono (by omega))).mono Hbb.out.size))
            clear hzf hin hmc hR hwq hru hru2 hkl hk hvu
            go_wp2
            go_ret2
            exact .mk Au cu (by rw [Hkl.out, Hmc.out] <;> rfl) Hru.out Hbe.out
        · obtain rfl : q = ps.length := by omega
          have hqi : ¬ ((ps.length : Int) < (ps.length : Int)) := by omega
          have hnin : f ∉ eltM ps := fun h => by
            have h := sortM_mem.1 h
            obtain ⟨p, hp, e⟩ := List.mem_map.1 h
            obtain ⟨i, hi, e2⟩ := List.getElem_of_mem hp
            exact Hno.out i hi (by rw [pm_eq hi, e2]; exact e)
          have hmc : monC ms [f] = 4 := monC_out Hc.out Hclo.out (by simp) hnin
          have hR := wfR_out (ms := ms) (f := f) (by rw [hmc]; decide)
          have HR := Lib.hid hR
          have Hmc := Lib.hid hmc
          have Hbe := Lib.hid (Hbb.out.trans ((Hb2.out.trans (Hb'.out.mono (by omega))).mono Hbb.out.size))
          clear hnin hmc hR
          go_wp2
          go_ret2
          exact .mk none 0 (by rw [HR.out, Hmc.out] <;> rfl) (by rw [HR.out]; exact Rd.nil_) Hbe.out
  · have hmc := monC_code hc
    have hR := wfR_out (ms := ms) (f := f) (by rw [hmc]; exact hc)
    have HR := Lib.hid hR
    have Hmc := Lib.hid hmc
    have hne : (codeL ms [f] != 0) = true := by simpa using hc
    clear hc hmc hR
    go_enter Try.func39, Try.ntmps39
    go_wp2_with fail
    rw [← Hwb.out]
    refine (l02Given_any A (some ⟨w.heap.size + 1, 0, none⟩) n c 1 1 ms [f] wb Hx.out H7.out Hn.out rfl hb (by decide)).mono ?_
    rintro e w1 ⟨rfl, hb1⟩
    have Hbe := Lib.hid (Hbb.out.trans (hb1.mono Hbb.out.size))
    clear hb1
    go_wp2
    go_ret2
    exact .mk none 0 (by rw [HR.out, Hmc.out] <;> rfl) (by rw [HR.out]; exact Rd.nil_) Hbe.out
end Go.Proofs.Ytknknljkmkfmoaa
