/- Contracts of l04All, IsRegularIn and WordFor of both sides; the lists are as each theorem states. -/
import Derived.Test.YtknknljkmkfmoaaN25
namespace Go.Proofs.Ytknknljkmkfmoaa
open Go.RowKit
set_option maxRecDepth 100000
set_option linter.unusedSimpArgs false

/-- the elements if all further maps are elements -/
def l4R (ms xs : List M) : List M := if monC ms xs = 0 then elR ms xs else []
theorem l04All_any (A1 A2 : Option Addr) (n1 c1 n2 c2 : Nat) (ms xs : List M) (w : World) (hx : RdM w w.heap.size A1 ms) (hy : RdM w w.heap.size A2 xs) (hn : ms.length = n1) (hm : xs.length = n2)
    (hb : n1 < 1073741824) (hb2 : n2 < 1073741824) :
    Calls Try.prog 88 #[.slice A1 n1 c1, .slice A2 n2 c2] w (RetS (l4R ms xs) (monC ms xs) w) := by
  have Hx := Lib.hid hx
  have Hy := Lib.hid hy
  have Hn := Lib.hid hn
  have Hm := Lib.hid hm
  clear hx hy hn hm
  by_cases hc : elC ms xs = 0
  · obtain ⟨E, ps, hE⟩ := elC_el hc
    have hlen := hE.len
    have HEv : Hid (∀ g ∈ E, Valid g) := fun g hg => (hE.mnd.ok g hg).1
    have HE := Lib.hid hE
    have Hc := Lib.hid hc
    clear hE hc
    go_enter Try.func88, Try.ntmps88
    go_wp2_with fail
    refine (l02Elements_any A1 A2 n1 c1 n2 c2 ms xs _ Hx.out Hy.out Hn.out Hm.out hb hb2).mono ?_
    rintro e w1 ⟨A', c', rfl, hr, hb1⟩
    rw [HE.out.r] at hr ⊢
    rw [Hc.out]
    have Hr := Lib.hid hr
    have Hb1 := Lib.hid hb1
    obtain ⟨N, hN⟩ : ∃ N, E.length = N := ⟨_, rfl⟩
    rw [hN] at hlen ⊢
    have HN := Lib.hid hN
    clear hr hb1 hN
    go_wp2_with fail
    go_loopw [8] (fun i wr => ∃ q : Nat, i = .int .i64 q ∧ q ≤ n2 ∧ Below w1.heap.size w1 wr ∧ ∀ j, j < q → gm xs j ∈ E) (fun i _ => n2 - (intOf i).toNat)
    case atStart => exact ⟨0, rfl, by omega, Below.refl _ _, fun j hj => by omega⟩
    case round =>
      obtain ⟨q, rfl, hq, hb', hin⟩ := hrel
      have Hb := Lib.hid (Hb1.out.trans (hb'.mono Hb1.out.size))
      have Hb' := Lib.hid hb'
      have Hin := Lib.hid hin
      clear hb' hin
      by_cases hqk : q < n2
      · have hqi : (q : Int) < (n2 : Int) := by omega
        have h0 := Rd.more (Rd.below Hy.out Hb.out) Hb.out.size
        obtain ⟨b, off, rfl, hbl, h6⟩ := RdM.at_ h0 (k := q) (by rw [Hm.out]; exact hqk)
        obtain ⟨z, hzz⟩ : ∃ z, z = gm xs q := ⟨_, rfl⟩
        rw [← hzz] at h6
        have hzx : z ∈ xs := by rw [hzz]; exact gm_mem (by rw [Hm.out]; exact hqk)
        have hvz := (HE.out.X z hzx).1
        obtain ⟨x0, x1, x2, x3, x4, x5⟩ := h6
        have Hzz := Lib.hid hzz
        have Hzx := Lib.hid hzx
        clear h0 hzz hzx
        go_wp2_with fail
        refine (l02Find_any A' N c' E z wr (Rd.more (Rd.below Hr.out Hb'.out) Hb'.out.size) HN.out (by omega) HE.out.mnd.asc HEv.out hvz).mono ?_
        rintro e w4 ⟨rfl, hb4⟩
        have Hb4' := Lib.hid (Hb'.out.trans (hb4.mono Hb'.out.size))
        have Hb4 := Lib.hid (Hb.out.trans (hb4.mono Hb.out.size))
        clear hb4 x0 x1 x2 x3 x4 x5
        by_cases hz : z ∈ E
        · obtain ⟨y, hy⟩ : ∃ y : Nat, plOf E z - 1 = (y : Int) := ⟨ix E z, by rw [plOf_in hz]; omega⟩
          have hy0 : ¬ (y : Int) < (0 : Int) := by omega
          have Hz := Lib.hid hz
          rw [hy]
          clear hz hy
          go_wp2_with fail
          go_roundw
          case rel => exact ⟨q + 1, by go_num, by omega, Hb4'.out, fun j hj => by
            by_cases e : j = q
            · rw [e, ← Hzz.out]; exact Hz.out
            · exact Hin.out j (by omega)⟩
          case measure => simp [intOf]; omega
        · have hy : plOf E z - 1 = -1 := by rw [plOf_out hz]; rfl
          have hmc : monC ms xs = 4 := by rw [HE.out.mon, if_neg (by rw [List.all_eq_true]; exact fun h => hz (of_decide_eq_true (h z Hzx.out)))]
          have hR : l4R ms xs = [] := by unfold l4R; rw [if_neg (by rw [hmc]; decide)]
          have Hmc := Lib.hid hmc
          have HR := Lib.hid hR
          rw [hy]
          clear hz hy hmc hR
          go_wp2
          go_ret2
          exact .mk none 0 (by rw [HR.out, Hmc.out] <;> rfl) (by rw [HR.out]; exact Rd.nil_) Hb4.out
      · obtain rfl : q = n2 := by omega
        have hqi : ¬ ((q : Int) < (q : Int)) := by omega
        have hmc : monC ms xs = 0 := HE.out.mon0 fun f hf => by
          obtain ⟨i, hi, e⟩ := mem_gm hf
          rw [← e]; exact Hin.out i (by rw [Hm.out] at hi; exact hi)
        have hR : l4R ms xs = E := by unfold l4R; rw [if_pos hmc, HE.out.r]
        have Hmc := Lib.hid hmc
        have HR := Lib.hid hR
        clear hmc hR
        go_wp2
        go_ret2
        exact .mk A' c' (by rw [HR.out, HN.out, Hmc.out] <;> rfl) (by rw [HR.out]; exact Rd.more (Rd.below Hr.out Hb'.out) Hb'.out.size) Hb.out
  · have hmc := elC_mon hc
    have hR : l4R ms xs = [] := by unfold l4R; rw [if_neg (by rw [hmc]; exact hc)]
    have HR := Lib.hid hR
    have Hmc := Lib.hid hmc
    have hne : (elC ms xs != 0) = true := by simpa using hc
    clear hc hmc hR
    go_enter Try.func88, Try.ntmps88
    go_wp2_with fail
    refine (l02Elements_any A1 A2 n1 c1 n2 c2 ms xs _ Hx.out Hy.out Hn.out Hm.out hb hb2).mono ?_
    rintro e w1 ⟨A', c', rfl, hr, hb1⟩
    clear hr
    go_wp2
    go_ret2
    exact .mk none 0 (by rw [HR.out, Hmc.out] <;> rfl) (by rw [HR.out]; exact Rd.nil_) hb1

theorem SpecRegIn_any (A : Option Addr) (n c : Nat) (ms : List M) (f : M) (w : World) (hx : RdM w w.heap.size A ms) (hn : ms.length = n) (hb : n < 1073741824) :
    Calls Try.prog 44 #[.slice A n c, .agg (mc f)] w fun e w' => e = .returned (.tuple #[.bool (irR ms f), I (monC ms [f])]) ∧ Below w.heap.size w w' := by
  obtain ⟨wb, hwb⟩ : ∃ wb, wb = (w.alloc (.cells (mc f) 31)).alloc (.cells (mc f) 31) := ⟨_, rfl⟩
  have hbb : Below w.heap.size w wb := by rw [hwb]; exact ((Below.refl _ _).alloc (Nat.le_refl _) _).alloc (by simp) _
  have h6 : Six wb w.heap.size f := by rw [hwb]; exact Six.alloc (Blk.six (Blk.new w _ _)) _
  have h7 : RdM wb wb.heap.size (some ⟨w.heap.size + 1, 0, none⟩) [f] := by rw [hwb]; exact rd_one (Blk.six (Blk.new' _ _ _ (by simp)))
  have Hx := Lib.hid (Rd.more (Rd.below hx hbb) hbb.size)
  have Hn := Lib.hid hn
  have H6 := Lib.hid h6
  have H7 := Lib.hid h7
  have Hbb := Lib.hid hbb
  have Hwb := Lib.hid hwb
  have hlt := h6.lt
  clear hx hn h6 h7 hbb hwb
  rcases monC1_cases ms f with ⟨hc, E, ps, hE, hin⟩ | ⟨p0, p5⟩
  · have hR : irR ms f = decide (0 < (E.filter (invQ f)).length) := by unfold irR; rw [decide_eq_true hc, Bool.true_and, hE.r, reg_eq hE hin]
    have h4 : l4R ms [f] = E := by unfold l4R; rw [if_pos hc, hE.r]
    have hlen := hE.len
    have HR := Lib.hid hR
    have HE := Lib.hid hE
    have Hc := Lib.hid hc
    have Hin := Lib.hid hin
    clear hE hc hR hin
    go_enter Try.func44, Try.ntmps44
    go_wp2_with fail
    rw [← Hwb.out]
    refine (l04All_any A (some ⟨w.heap.size + 1, 0, none⟩) n c 1 1 ms [f] wb Hx.out H7.out Hn.out rfl hb (by decide)).mono ?_
    rintro e w1 ⟨A', c', rfl, hr, hb1⟩
    rw [h4] at hr ⊢
    rw [Hc.out]
    have Hr := Lib.hid hr
    have Hb1 := Lib.hid hb1
    obtain ⟨d0, d1, d2, d3, d4, d5⟩ := H6.out.below hb1 hlt
    clear hr hb1 h4
    go_wp2_with fail
    refine (regS_any A' E.length c' E f (gm ms 0).p _ Hr.out rfl HE.out.mnd hlen Hin.out).mono ?_
    rintro e w2 ⟨rfl, hb2⟩
    have Hb2 := Lib.hid (Hbb.out.trans ((Hb1.out.trans (hb2.mono Hb1.out.size)).mono Hbb.out.size))
    rw [← HR.out]
    clear hb2 d0 d1 d2 d3 d4 d5
    go_wp2
    go_ret2
    exact ⟨by rw [Hc.out] <;> rfl, Hb2.out⟩
  · have hR : irR ms f = false := by unfold irR; rw [decide_eq_false (by omega)]; rfl
    have HR := Lib.hid hR
    have hne : (monC ms [f] != 0) = true := by simp; omega
    clear hR
    go_enter Try.func44, Try.ntmps44
    go_wp2_with fail
    rw [← Hwb.out]
    refine (l04All_any A (some ⟨w.heap.size + 1, 0, none⟩) n c 1 1 ms [f] wb Hx.out H7.out Hn.out rfl hb (by decide)).mono ?_
    rintro e w1 ⟨A', c', rfl, hr, hb1⟩
    have Hb2 := Lib.hid (Hbb.out.trans (hb1.mono Hbb.out.size))
    clear hr hb1
    go_wp2
    go_ret2
    exact ⟨by rw [HR.out] <;> rfl, Hb2.out⟩

/-! ### the least word -/
def wfR (ms : List M) (f : M) : List Int := if monC ms [f] = 0 then (match clo ms (gm ms 0).p with | some ps => wordOf ps f | none => []) else []
theorem wfR_in {ms E : List M} {f : M} {ps : Met} (hE : El ms [f] E ps) (hc : monC ms [f] = 0) : wfR ms f = wordOf ps f := by
  unfold wfR; rw [if_pos hc, hE.clo]
theorem wfR_out {ms : List M} {f : M} (hc : monC ms [f] ≠ 0) : wfR ms f = [] := if_neg hc
theorem word_len {ms : List M} {n : Int} {ps : Met} {f : M} (h : clo ms n = some ps) (hf : f ∈ ps.map (·.1)) : (wordOf ps f).length ≤ 300 := by
  have hg := (clo_good h).1
  have hi : ix (ps.map (·.1)) f < ps.length := by have := ix_lt hf; rwa [List.length_map] at this
  have := hg.wl _ hi
  have := hg.len
  unfold wordOf
  omega
theorem wfR_len (ms : List M) (f : M) : (wfR ms f).length ≤ 300 := by
  by_cases hc : monC ms [f] = 0
  · rcases monC1_cases ms f with ⟨_, E, ps, hE, hin⟩ | ⟨p0, p5⟩
    · rw [wfR_in hE hc]
      refine word_len hE.clo ?_
      rw [hE.eq] at hin
      exact sortM_mem.1 hin
    · omega
  · rw [wfR_out hc]; simp

theorem ImplWordFor_any (A : Option Addr) (n c : Nat) (ms : List M) (f : M) (w : World) (hx : RdM w w.heap.size A ms) (hn : ms.length = n) (hA : A = none → n = 0 ∧ c = 0) (hb : n < 536870912) :
    Calls Try.prog 40 #[.slice A n c, .agg (mc f)] w (RetI (wfR ms f) (monC ms [f]) w) := by
  obtain ⟨wb, hwb⟩ : ∃ wb, wb = (w.alloc (.cells (mc f) 31)).alloc (.cells (mc f) 31) := ⟨_, rfl⟩
  have hbb : Below w.heap.size w wb := by rw [hwb]; exact ((Below.refl _ _).alloc (Nat.le_refl _) _).alloc (by simp) _
  have h7 : RdM wb wb.heap.size (some ⟨w.heap.size + 1, 0, none⟩) [f] := by rw [hwb]; exact rd_one (Blk.six (Blk.new' _ _ _ (by simp)))
  have Hx := Lib.hid (Rd.more (Rd.below hx hbb) hbb.size)
  have Hn := Lib.hid hn
  have HA := Lib.hid hA
  have H7 := Lib.hid h7
  have Hbb := Lib.hid hbb
  have Hwb := Lib.hid hwb
  have hzb := hbb.size
  clear hx hn h7 hbb hwb hA
  rcases monC1_cases ms f with ⟨hc, E, ps, hE, hin⟩ | ⟨p0, p5⟩
  · have HR := Lib.hid (wfR_in hE hc)
    have HE := Lib.hid hE
    have Hc := Lib.hid hc
    have hlen := hE.len
    have Hin := Lib.hid hin
    obtain ⟨x, hx⟩ : ∃ x, x = ix E f := ⟨_, rfl⟩
    have hxl : x < E.length := by rw [hx]; exact ix_lt hin
    have Hxx := Lib.hid hx
    clear hE hc hin hx
    go_enter Try.func40, Try.ntmps40
    go_wp2_with fail
    rw [← Hwb.out]
    refine (monoidOf_any A (some ⟨w.heap.size + 1, 0, none⟩) n c 1 1 ms [f] wb Hx.out H7.out Hn.out rfl HA.out (fun h => (by cases h)) (by omega)).mono ?_
    rintro e w1 ⟨r, v, rfl, hb1, hr0, hs⟩
    obtain ⟨g, rfl, hM, hO⟩ := hs ps HE.out.clo Hc.out
    rw [← HE.out.eq] at hM hO
    simp only [List.map_cons, List.map_nil] at hO
    rw [← Hxx.out] at hO
    rw [Hc.out]
    obtain ⟨Av, cv, hv, hrv⟩ := hO.form
    subst hv
    obtain ⟨b, off, e, hbv, c0⟩ := RdI.at_ hrv (k := 0) (by simp)
    subst e
    rw [Nat.add_zero] at c0
    have C1 : Hid (w1.cell? ⟨b, off, none⟩ = some (I x)) := c0
    obtain ⟨_, ev, wv, pl, vs, hMo, _, _, hW, hvl, hul, hws⟩ := hM
    obtain ⟨gW, cW, rfl⟩ := hW.some_ (by omega)
    rw [hvl] at hMo
    have hcw := RdV.at_ hW.rd (k := x) (by omega)
    obtain ⟨b2, off2, e2, hb2, hcw⟩ := hcw
    injection e2 with e2
    injection e2 with e3 e4 _
    subst e3 e4
    rw [Nat.zero_add] at hcw
    have hwx := hws x hxl
    have hgx : (E.map (wordOf ps)).getD x [] = wordOf ps f := by
      rw [List.getD_eq_getElem?_getD, List.getElem?_map, List.getElem?_eq_getElem hxl]
      have : E[x] = f := by have := gm_ix Hin.out; rw [← Hxx.out, gm_eq hxl] at this; exact this
      rw [this]; rfl
    rw [hgx] at hwx
    obtain ⟨Au, cu, hvu, _⟩ := hwx.form
    obtain ⟨k, hk⟩ : ∃ k, (wordOf ps f).length = k := ⟨_, rfl⟩
    rw [hk] at hvu
    rw [hvu] at hwx hcw
    have HW := Lib.hid hwx
    have CW := Lib.hid hcw
    have CM := Lib.hid hMo.c1
    have l1 := World.block_lt_of_cell? w1 ⟨b, off, none⟩ c0
    have l2 := World.block_lt_of_cell? w1 ⟨gW, x, none⟩ hcw
    have l3 := hMo.lt
    have Hb1 := Lib.hid (Hbb.out.trans (hb1.mono Hbb.out.size))
    have hxi : (x : Int) < (E.length : Int) := by omega
    clear hs hb1 hr0 hO hrv c0 hMo hW hws hwx hgx hvu hcw hk hvl hul
    simp only [List.length_singleton]
    go_wp2_with fail
    refine wp_region_same [] rfl (by kernel_rfl) (by kernel_rfl) (by kernel_rfl) (fun w' => Below w1.heap.size w1 w') _
      [.pointer (some ⟨g, 0, none⟩), .pointer (some ⟨g, 0, none⟩), .pointer (some ⟨g, 1, none⟩), .slice (some ⟨gW, 0, none⟩) E.length cW, .slice (some ⟨b, off, none⟩) 1 cv, .pointer (some ⟨b, off, none⟩), I x, .pointer (some ⟨gW, x, none⟩), .slice Au k cu, .slice Au k cu, I 0]
      (by simp only [putAll, List.setIfInBounds_toArray, List.set_cons_succ, List.set_cons_zero]; rfl) (Below.refl _ _).drew ?hop ?hQ
    case hop =>
      refine FixBL.toL (fun w' w'' hS hb => hS.trans (hb.mono hS.size)) _ _ ?_
      refine ⟨.inr ?_, .inr ?_, .inr ?_, .inr ?_, .inr ?_, .inr ?_, .inr ?_, .inr ?_, .inr ?_, .inr ?_, .inr ?_, trivial⟩
      · (with_reducible refine FixB.of ?_ ?_; rfl; intro w' hS; have s0 := (hS.cell (p := ⟨b, off, none⟩) l1).trans C1.out; have s1 := (hS.cell (p := ⟨gW, x, none⟩) l2).trans CW.out; have s2 := (hS.cell (p := ⟨g, 1, none⟩) l3).trans CM.out; clear hS; unfold Oper.wp; go_simp; first | done | exact Below.refl _ _)
      · (with_reducible refine FixB.of ?_ ?_; rfl; intro w' hS; have s0 := (hS.cell (p := ⟨b, off, none⟩) l1).trans C1.out; have s1 := (hS.cell (p := ⟨gW, x, none⟩) l2).trans CW.out; have s2 := (hS.cell (p := ⟨g, 1, none⟩) l3).trans CM.out; clear hS; unfold Oper.wp; go_simp; first | done | exact Below.refl _ _)
      · (with_reducible refine FixB.of ?_ ?_; rfl; intro w' hS; have s0 := (hS.cell (p := ⟨b, off, none⟩) l1).trans C1.out; have s1 := (hS.cell (p := ⟨gW, x, none⟩) l2).trans CW.out; have s2 := (hS.cell (p := ⟨g, 1, none⟩) l3).trans CM.out; clear hS; unfold Oper.wp; go_simp; first | done | exact Below.refl _ _)
      · (with_reducible refine FixB.of ?_ ?_; rfl; intro w' hS; have s0 := (hS.cell (p := ⟨b, off, none⟩) l1).trans C1.out; have s1 := (hS.cell (p := ⟨gW, x, none⟩) l2).trans CW.out; have s2 := (hS.cell (p := ⟨g, 1, none⟩) l3).trans CM.out; clear hS; unfold Oper.wp; go_simp; first | done | exact Below.refl _ _)
      · (with_reducible refine FixB.of ?_ ?_; rfl; intro w' hS; have s0 := (hS.cell (p := ⟨b, off, none⟩) l1).trans C1.out; have s1 := (hS.cell (p := ⟨gW, x, none⟩) l2).trans CW.out; have s2 := (hS.cell (p := ⟨g, 1, none⟩) l3).trans CM.out; clear hS; unfold Oper.wp; go_simp; first | done | exact Below.refl _ _)
      · (with_reducible refine FixB.of ?_ ?_; rfl; intro w' hS; have s0 := (hS.cell (p := ⟨b, off, none⟩) l1).trans C1.out; have s1 := (hS.cell (p := ⟨gW, x, none⟩) l2).trans CW.out; have s2 := (hS.cell (p := ⟨g, 1, none⟩) l3).trans CM.out; clear hS; unfold Oper.wp; go_simp; first | done | exact Below.refl _ _)
      · (with_reducible refine FixB.of ?_ ?_; rfl; intro w' hS; have s0 := (hS.cell (p := ⟨b, off, none⟩) l1).trans C1.out; have s1 := (hS.cell (p := ⟨gW, x, none⟩) l2).trans CW.out; have s2 := (hS.cell (p := ⟨g, 1, none⟩) l3).trans CM.out; clear hS; unfold Oper.wp; go_simp; first | done | exact Below.refl _ _)
      · (with_reducible refine FixB.of ?_ ?_; rfl; intro w' hS; have s0 := (hS.cell (p := ⟨b, off, none⟩) l1).trans C1.out; have s1 := (hS.cell (p := ⟨gW, x, none⟩) l2).trans CW.out; have s2 := (hS.cell (p := ⟨g, 1, none⟩) l3).trans CM.out; clear hS; unfold Oper.wp; go_simp; first | done | exact Below.refl _ _)
      · (with_reducible refine FixB.of ?_ ?_; rfl; intro w' hS; have s0 := (hS.cell (p := ⟨b, off, none⟩) l1).trans C1.out; have s1 := (hS.cell (p := ⟨gW, x, none⟩) l2).trans CW.out; have s2 := (hS.cell (p := ⟨g, 1, none⟩) l3).trans CM.out; clear hS; unfold Oper.wp; go_simp; first | done | exact Below.refl _ _)
      · (with_reducible refine FixB.of ?_ ?_; rfl; intro w' hS; have s0 := (hS.cell (p := ⟨b, off, none⟩) l1).trans C1.out; have s1 := (hS.cell (p := ⟨gW, x, none⟩) l2).trans CW.out; have s2 := (hS.cell (p := ⟨g, 1, none⟩) l3).trans CM.out; clear hS; unfold Oper.wp; go_simp; first | done | exact Below.refl _ _)
      · (with_reducible refine FixB.of ?_ ?_; rfl; intro w' hS; have s0 := (hS.cell (p := ⟨b, off, none⟩) l1).trans C1.out; have s1 := (hS.cell (p := ⟨gW, x, none⟩) l2).trans CW.out; have s2 := (hS.cell (p := ⟨g, 1, none⟩) l3).trans CM.out; clear hS; unfold Oper.wp; go_simp; first | done | exact Below.refl _ _)
    case hQ =>
    intro wc hS _
    have HB2 := Lib.hid hS
    clear hS
    have Ho := Lib.hid ((HW.out.below HB2.out (Nat.le_refl _)).mono hzb)
    have Hb2 := Lib.hid (Hb1.out.trans (HB2.out.mono Hb1.out.size))
    go_wp2_with fail
    go_ret2
    exact .mk _ (by rw [Hc.out] <;> rfl) (by rw [HR.out]; exact Ho.out) Hb2.out
  · have HR := Lib.hid (wfR_out (ms := ms) (f := f) (by omega))
    have hne : (monC ms [f] != 0) = true := by simp; omega
    go_enter Try.func40, Try.ntmps40
    go_wp2_with fail
    rw [← Hwb.out]
    refine (monoidOf_any A (some ⟨w.heap.size + 1, 0, none⟩) n c 1 1 ms [f] wb Hx.out H7.out Hn.out rfl HA.out (fun h => (by cases h)) (by omega)).mono ?_
    rintro e w1 ⟨r, v, rfl, hb1, hr0, hs⟩
    have Hb1 := Lib.hid (Hbb.out.trans (hb1.mono Hbb.out.size))
    clear hs hb1 hr0
    go_wp2
    go_ret2
    exact .mk _ rfl (by rw [HR.out]; exact OwI.nil_) Hb1.out
end Go.Proofs.Ytknknljkmkfmoaa
