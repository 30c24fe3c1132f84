/- Contracts of IsRegular on both sides; the lists are as each theorem states. -/
import Derived.Test.YtknknljkmkfmoaaI1
namespace Go.Proofs.Ytknknljkmkfmoaa
open Go.RowKit
set_option maxRecDepth 100000
set_option linter.unusedSimpArgs false
set_option linter.unusedVariables false

def irgB (E : List M) (x i : Nat) : Bool := sameK E 3 i x && isIdem (gm E i)
/-- the class of f holds an idempotent -/
def irgR (ms : List M) (f : M) : Bool := decide (monC ms [f] = 0) && (List.range (elR ms [f]).length).any (irgB (elR ms [f]) (ix (elR ms [f]) f))
theorem irgB_eq (E : List M) (x i : Nat) : irgB E x i = (decide (Rel E true true (gm E x) (gm E i)) && isIdem (gm E i) && decide (Rel E true true (gm E i) (gm E x))) := by
  unfold irgB
  rw [← bothB_J]
  unfold bothB relB
  cases decide (Rel E true true (gm E i) (gm E x)) <;> cases decide (Rel E true true (gm E x) (gm E i)) <;> cases isIdem (gm E i) <;> rfl
theorem any_at {N q : Nat} {p : Nat → Bool} (hq : q < N) (h : p q = true) : (List.range N).any p = true := any_iff.2 ⟨q, hq, h⟩
theorem any_no {N : Nat} {p : Nat → Bool} (h : ∀ j, j < N → p j = false) : (List.range N).any p = false := by
  rw [← Bool.not_eq_true, any_iff]
  rintro ⟨j, hj, e⟩
  rw [h j hj] at e; cases e

set_option maxHeartbeats 2000000 in
theorem SpecIsRegular_any (A : Option Addr) (n c : Nat) (ms : List M) (f : M) (w : World) (hx : RdM w w.heap.size A ms) (hn : ms.length = n) (hb : n < 1073741824) :
    Calls Try.prog 59 #[.slice A n c, .agg (mc f)] w fun e w' => e = .returned (.tuple #[.bool (irgR ms f), I (monC ms [f])]) ∧ Below w.heap.size w w' := by
  obtain ⟨wb, hwb⟩ : ∃ wb, wb = (w.alloc (.cells (mc f) 31)).alloc (.cells (mc f) 31) := ⟨_, rfl⟩
  have hbb : Below w.heap.size w wb := by rw [hwb]; exact ((Below.refl _ _).alloc (Nat.le_refl _) _).alloc (by simp) _
  have h7 : RdM wb wb.heap.size (some ⟨w.heap.size + 1, 0, none⟩) [f] := by rw [hwb]; exact rd_one (Blk.six (Blk.new' _ _ _ (by simp)))
  have Hx := Lib.hid (Rd.more (Rd.below hx hbb) hbb.size)
  have Hn := Lib.hid hn
  have H7 := Lib.hid h7
  have Hbb := Lib.hid hbb
  have Hwb := Lib.hid hwb
  clear hx hn h7 hbb hwb
  by_cases hc : monC ms [f] = 0
  · obtain ⟨E, ps, hE, hin⟩ := monC_el hc
    have hfE := hin f (by simp)
    have hR : irgR ms f = (List.range E.length).any (irgB E (ix E f)) := by unfold irgR; rw [decide_eq_true hc, Bool.true_and, hE.r]
    have hG : gR ms [f] = E := by unfold gR; rw [if_pos hc, hE.r]
    have hNN : gN ms [f] = [(ix E f : Int)] := by unfold gN; rw [if_pos hc, hE.r]; rfl
    have hlen := hE.len
    have hn6 := hE.n6
    obtain ⟨x, hxx⟩ : ∃ x, x = ix E f := ⟨_, rfl⟩
    have hxl : x < E.length := by rw [hxx]; exact ix_lt hfE
    rw [← hxx] at hNN hR
    obtain ⟨N, hN⟩ : ∃ N, E.length = N := ⟨_, rfl⟩
    rw [hN] at hlen hxl hR
    have HN := Lib.hid hN
    have HE := Lib.hid hE
    have Hc := Lib.hid hc
    have HG := Lib.hid hG
    have HNN := Lib.hid hNN
    have HR := Lib.hid hR
    have hxz : (x : Int) < (N : Int) := by omega
    have hn6' : n ≤ 6 := by rw [← Hn.out]; exact hn6
    have HEv : Hid (∀ i, i < N → Valid (gm E i)) := fun i hi => (HE.out.mnd.ok _ (gm_mem (by rw [HN.out]; exact hi))).1
    clear hE hc hR hin hG hNN hxx hN hfE hn6
    go_enter Try.func59, Try.ntmps59
    go_wp2_with fail
    rw [← Hwb.out]
    refine (l03Given_any A (some ⟨w.heap.size + 1, 0, none⟩) n c 1 1 ms [f] wb Hx.out H7.out Hn.out rfl hb (by decide)).mono ?_
    rintro e w1 ⟨A', c', v, rfl, hr, hv, hb1⟩
    rw [HG.out] at hr ⊢
    rw [HNN.out] at hv
    rw [Hc.out, HN.out]
    obtain ⟨Av, cv, hvv, hrv⟩ := hv.form
    subst hvv
    obtain ⟨bv, ov, e, hbv, c0⟩ := RdI.at_ hrv (k := 0) (by simp)
    subst e
    rw [Nat.add_zero] at c0
    have c1 : w1.cell? ⟨bv, ov, none⟩ = some (I x) := c0
    obtain ⟨b, off, rfl, hbE, _⟩ := RdM.at_ hr (k := x) (by rw [HN.out]; exact hxl)
    have Hr := Lib.hid hr
    have Hb1 := Lib.hid hb1
    have hz1 := hb1.size
    simp only [List.length_cons, List.length_nil, Nat.zero_add]
    clear hr hv hrv hb1 c0
    go_wp2_with fail
    have hbw := Hb1.out
    refine (l03Reach_any (some ⟨b, off, none⟩) N c' E A n c ms x true true w1 Hr.out HN.out (Rd.more (Rd.below Hx.out hbw) hbw.size) Hn.out hlen hn6' HE.out.mnd HE.out.mem HE.out.G hxl).mono ?_
    rintro e w2 ⟨gq, rfl, hgq, hB, hb2⟩
    have HB := Lib.hid hB
    have Hb2 := Lib.hid (Hb1.out.trans (hb2.mono hz1))
    have Hr2 := Lib.hid (Rd.more (Rd.below Hr.out hb2) hb2.size)
    have hgl := hB.lt
    have hz2 : wb.heap.size ≤ w2.heap.size := Hb2.out.size
    clear hb2 hbw hB c1
    go_wp2_with fail
    go_loopw [11] (fun i wr => ∃ q : Nat, i = .int .i64 q ∧ q ≤ N ∧ Below w2.heap.size w2 wr ∧ ∀ j, j < q → irgB E x j = false) (fun i _ => N - (intOf i).toNat)
    case atStart => exact ⟨0, rfl, by omega, Below.refl _ _, fun j hj => by omega⟩
    case round =>
      obtain ⟨q, rfl, hq, hb', hno⟩ := hrel
      have Hb := Lib.hid hb'
      have Hno := Lib.hid hno
      have hsz := hb'.size
      clear hb' hno
      by_cases hqN : q < N
      · have hqz : (q : Int) < (N : Int) := by omega
        have e0 := (HB.out.below Hb.out hgl).cell hqN
        obtain ⟨o, ho⟩ : ∃ o, o = decide (Rel E true true (gm E x) (gm E q)) := ⟨_, rfl⟩
        rw [← ho] at e0
        have hirg := irgB_eq E x q
        rw [← ho] at hirg
        have hv := HEv.out q hqN
        obtain ⟨z, hz⟩ : ∃ z, z = gm E q := ⟨_, rfl⟩
        have H6 := (RdM.six (Rd.more (Rd.below Hr2.out Hb.out) hsz) (k := q) (by rw [HN.out]; exact hqN)).1
        rw [← hz] at H6 hv hirg
        have Hirg := Lib.hid hirg
        have Hz := Lib.hid hz
        clear ho hirg hz
        cases o
        · have Hno2 : Hid (∀ j, j < q + 1 → irgB E x j = false) := fun j hj => by
            by_cases e : j = q
            · rw [e, Hirg.out]; rfl
            · exact Hno.out j (by omega)
          clear H6
          go_wp2_with fail
          go_roundw
          case rel => exact ⟨q + 1, by go_num, by omega, Hb.out, Hno2.out⟩
          case measure => simp [intOf]; omega
        · obtain ⟨x0, x1, x2, x3, x4, x5⟩ := H6
          go_wp2_with fail
          refine (l01Idem_any z wr hv).mono ?_
          rintro e w3 ⟨rfl, hb3⟩
          have Hb3 := Lib.hid (Hb.out.trans (hb3.mono hsz))
          have hz3 := hb3.size
          clear hb3 x0 x1 x2 x3 x4 x5 e0
          cases hid : isIdem z
          · have Hno2 : Hid (∀ j, j < q + 1 → irgB E x j = false) := fun j hj => by
              by_cases e : j = q
              · rw [e, Hirg.out, hid]; rfl
              · exact Hno.out j (by omega)
            clear hid
            go_wp2_with fail
            go_roundw
            case rel => exact ⟨q + 1, by go_num, by omega, Hb3.out, Hno2.out⟩
            case measure => simp [intOf]; omega
          · have Hid' := Lib.hid hid
            clear hid
            go_wp2_with fail
            have hbx := Hb2.out.trans (Hb3.out.mono hz2)
            refine (l03Reach_any (some ⟨b, off, none⟩) N c' E A n c ms q true true w3 (Rd.more (Rd.below Hr2.out Hb3.out) Hb3.out.size) HN.out (Rd.more (Rd.below Hx.out hbx) hbx.size) Hn.out hlen hn6' HE.out.mnd HE.out.mem HE.out.G hqN).mono ?_
            rintro e w4 ⟨g4, rfl, hg4, hB4, hb4⟩
            have e4 := hB4.cell hxl
            obtain ⟨t, ht⟩ : ∃ t, t = decide (Rel E true true (gm E q) (gm E x)) := ⟨_, rfl⟩
            rw [← ht] at e4
            have Hi2 : Hid (irgB E x q = t) := by show _ = _; rw [Hirg.out, Hid'.out, Hz.out, ← ht]; rfl
            have Hb4 := Lib.hid (Hb3.out.trans (hb4.mono Hb3.out.size))
            have Hbe := Lib.hid (Hbb.out.trans ((Hb2.out.trans (Hb4.out.mono hz2)).mono Hbb.out.size))
            clear hB4 hb4 hbx ht
            cases t
            · have Hno2 : Hid (∀ j, j < q + 1 → irgB E x j = false) := fun j hj => by
                by_cases e : j = q
                · rw [e, Hi2.out]
                · exact Hno.out j (by omega)
              go_wp2_with fail
              go_roundw
              case rel => exact ⟨q + 1, by go_num, by omega, Hb4.out, Hno2.out⟩
              case measure => simp [intOf]; omega
            · have HR2 : Hid (irgR ms f = true) := by show _ = _; rw [HR.out]; exact any_at hqN Hi2.out
              go_wp2_with fail
              go_ret2
              exact ⟨by rw [HR2.out, Hc.out] <;> rfl, Hbe.out⟩
      · obtain rfl : q = N := by omega
        have hqz : ¬ ((q : Int) < (q : Int)) := by omega
        have HR2 : Hid (irgR ms f = false) := by show _ = _; rw [HR.out]; exact any_no Hno.out
        have Hbe := Lib.hid (Hbb.out.trans ((Hb2.out.trans (Hb.out.mono hz2)).mono Hbb.out.size))
        go_wp2_with fail
        go_ret2
        exact ⟨by rw [HR2.out, Hc.out] <;> rfl, Hbe.out⟩
  · have hR : irgR ms f = false := by unfold irgR; rw [decide_eq_false hc]; rfl
    have HR := Lib.hid hR
    have hne : (monC ms [f] != 0) = true := by simpa using hc
    clear hR hc
    go_enter Try.func59, Try.ntmps59
    go_wp2_with fail
    rw [← Hwb.out]
    refine (l03Given_any A (some ⟨w.heap.size + 1, 0, none⟩) n c 1 1 ms [f] wb Hx.out H7.out Hn.out rfl hb (by decide)).mono ?_
    rintro e w1 ⟨A', c', v, rfl, hr, hv, hb1⟩
    have Hb2 := Lib.hid (Hbb.out.trans (hb1.mono Hbb.out.size))
    obtain ⟨Av, cv, hvv, _⟩ := hv.form
    clear hr hb1 hv
    subst hvv
    go_wp2
    go_ret2
    exact ⟨by rw [HR.out] <;> rfl, Hb2.out⟩
end Go.Proofs.Ytknknljkmkfmoaa
