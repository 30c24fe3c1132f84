/- Contracts of UnitsOf on both sides; the lists are as each theorem states. -/
import Derived.Test.YtknknljkmkfmoaaN27
import Derived.Test.YtknknljkmkfmoaaD9
namespace Go.Proofs.Ytknknljkmkfmoaa
open Go.RowKit
set_option maxRecDepth 100000
set_option linter.unusedSimpArgs false
set_option linter.unusedVariables false

def isUnit (f : M) : Bool := decide ((rk f : Int) = f.p)
theorem unit1_any {n : Int} {B g : Nat} {E : List M} {us : List (List Int)} (i : Nat) (w : World) (h : MonAt n B g E us w) (hm : Mnd n E) (hi : i < E.length) :
    Calls Try.prog 131 #[.pointer (some ⟨g, 0, none⟩), I i] w fun e w' => e = .returned (.bool (isUnit (gm E i))) ∧ Below w.heap.size w w' := by
  obtain ⟨_, ev, wv, pl, vs, hM, hP, hO, _⟩ := h
  obtain ⟨gE, cE, rfl⟩ := hO.some_ (by omega)
  have c0 := hM.c0
  have hv := (hm.ok _ (gm_mem hi)).1
  have h6 := RdM.at_ hO.rd (k := i) hi
  obtain ⟨b', off', e, _, h6⟩ := h6
  injection e with e
  injection e with e1 e2 _
  subst e1 e2
  rw [Nat.zero_add] at h6
  obtain ⟨f, hf⟩ : ∃ f, f = gm E i := ⟨_, rfl⟩
  rw [← hf] at h6 hv ⊢
  obtain ⟨x0, x1, x2, x3, x4, x5⟩ := h6
  have ki : (i : Int) < (E.length : Int) := by omega
  clear hM hP hO hf
  go_enter Try.func131, Try.ntmps131
  go_wp2_with fail
  refine (isPerm_any f w hv).mono ?_
  rintro e w1 ⟨rfl, hb1⟩
  go_wp2
  go_ret
  exact ⟨rfl, hb1⟩
def unitB (E : List M) (i : Nat) : Bool := isUnit (gm E i)
theorem unitF_any (A : Option Addr) (n c : Nat) (ms : List M) (w : World) (hx : RdM w w.heap.size A ms) (hn : ms.length = n) (hA : A = none → n = 0 ∧ c = 0) (hb : n < 536870912) :
    Calls Try.prog 76 #[.slice A n c] w (RetM (thatR unitB ms) (elC ms []) w) := by
  have H := Lib.hid (elementsThat_any A n c ms 131 #[] unitB w hx hn hA hb (enters_of Try.func131 (by kernel_rfl) rfl)
    fun E ps hE B g us w1 hM _ i hi => unit1_any i w1 hM hE.mnd hi)
  clear hx hn hA
  go_enter Try.func76, Try.ntmps76
  go_wp2_with fail
  refine H.out.mono ?_
  rintro e w1 ⟨v, rfl, ho, hb1⟩
  obtain ⟨A', c', rfl, _⟩ := ho.form
  have Ho := Lib.hid ho
  clear ho
  go_wp2
  go_ret2
  exact .mk _ rfl Ho.out hb1

theorem that_unit {ms : List M} : thatR unitB ms = (elR ms []).filter isUnit := thatE_filter _ _

theorem SpecUnits_any (A : Option Addr) (n c : Nat) (ms : List M) (w : World) (hx : RdM w w.heap.size A ms) (hn : ms.length = n) (hb : n < 1073741824) :
    Calls Try.prog 75 #[.slice A n c] w (RetS (thatR unitB ms) (elC ms []) w) := by
  have Hx := Lib.hid hx
  have Hn := Lib.hid hn
  clear hx hn
  by_cases hc : elC ms [] = 0
  · obtain ⟨E, ps, hE⟩ := elC_el hc
    have hR := that_unit (ms := ms)
    rw [hE.r] at hR
    have hlen := hE.len
    have hpos := hE.pos
    have HEv : Hid (∀ i, i < E.length → Valid (gm E i)) := fun i hi => (hE.mnd.ok _ (gm_mem hi)).1
    have HR := Lib.hid hR
    have HE := Lib.hid hE
    have Hc := Lib.hid hc
    clear hE hc hR
    go_enter Try.func75, Try.ntmps75
    go_wp2_with fail
    refine (l02Elements_any A none n c 0 0 ms [] _ Hx.out Rd.nil_ Hn.out rfl hb (by decide)).mono ?_
    rintro e w1 ⟨A', c', rfl, hr, hb1⟩
    rw [HE.out.r] at hr ⊢
    rw [Hc.out]
    obtain ⟨b, off, rfl, hbb, _⟩ := RdM.at_ hr hpos
    have Hr := Lib.hid hr
    have Hb1 := Lib.hid hb1
    have hz1 := hb1.size
    obtain ⟨N, hN⟩ : ∃ N, E.length = N := ⟨_, rfl⟩
    rw [hN] at hlen hpos HEv ⊢
    have HN := Lib.hid hN
    clear hr hb1 hN
    go_wp2_with fail
    go_loopw [6, 7] (fun v i wr => ∃ q : Nat, i = .int .i64 q ∧ q ≤ N ∧ Below w1.heap.size w1 wr ∧ OwM 31 wr w1.heap.size v ((E.take q).filter isUnit)) (fun _ i _ => N - (intOf i).toNat)
    case atStart => exact ⟨0, rfl, by omega, (Below.refl _ _).alloc (Nat.le_refl _) _, by simpa using OwM.made (Nat.le_refl _)⟩
    case round =>
      obtain ⟨q, rfl, hq, hb, ho⟩ := hrel
      obtain ⟨L, hL⟩ : ∃ L, L = (E.take q).filter isUnit := ⟨_, rfl⟩
      rw [← hL] at ho
      have hLl : L.length ≤ 300 := by rw [hL]; have := filter_len E isUnit q; have := HN.out; omega
      have HL := Lib.hid hL
      obtain ⟨A1, c1, hv, _⟩ := ho.form
      obtain ⟨k1, hk1⟩ : ∃ k1, L.length = k1 := ⟨_, rfl⟩
      rw [hk1] at hv hLl
      subst hv
      have Hk1 := Lib.hid hk1
      have Hb := Lib.hid hb
      have Ho := Lib.hid ho
      clear hb ho hL hk1
      by_cases hqN : q < N
      · have hqi : (q : Int) < (N : Int) := by omega
        have hv := HEv.out q hqN
        obtain ⟨z, hzz⟩ : ∃ z, z = gm E q := ⟨_, rfl⟩
        have H6 := (RdM.six (Rd.more (Rd.below Hr.out Hb.out) Hb.out.size) (k := q) (by rw [HN.out]; exact hqN)).1
        rw [← hzz] at H6 hv
        have H6h := Lib.hid H6
        have hfs := filter_take (E := E) (P := isUnit) (r := q) (by rw [HN.out]; exact hqN)
        rw [← HL.out, ← hzz] at hfs
        obtain ⟨x0, x1, x2, x3, x4, x5⟩ := H6
        have Hfs := Lib.hid hfs
        clear hzz hfs
        have hp := hv.p5
        have hp1 := hv.p1
        have hiu : ((rk z : Int) == z.p) = isUnit z := by unfold isUnit; rfl
        obtain ⟨d, hd⟩ : ∃ d, d = isUnit z := ⟨_, rfl⟩
        rw [← hd] at hiu
        have Hiu := Lib.hid hiu
        have Hd := Lib.hid hd
        have hvh := Lib.hid hv
        have h6l := H6h.out.lt
        have hpb := Hb.out.size
        clear hiu hd
        go_wp2_with fail
        refine wp_region_same [] rfl (by kernel_rfl) (by kernel_rfl) (by kernel_rfl) (fun w' => Below wr.heap.size wr w') _
          [.slice (some ⟨b, off, none⟩) N c', I q, .pointer (some ⟨b, off + q * 6, none⟩), .agg (mc z), I (rk z), .slice (some ⟨b, off, none⟩) N c', I q, .pointer (some ⟨b, off + q * 6, none⟩), .pointer (some ⟨b, off + q * 6, none⟩), I z.p, .bool d]
          (by simp only [putAll, List.setIfInBounds_toArray, List.set_cons_succ, List.set_cons_zero]; rfl) (Below.refl _ _).drew ?hop ?hQ
        case hop =>
          refine FixBL.toL (fun w' w'' hS hb => hS.trans (hb.mono hS.size)) _ _ ?_
          refine ⟨.inr ?_, .inr ?_, .inr ?_, .inr ?_, .inr ?_, .inr ?_, .inr ?_, .inr ?_, .inr ?_, .inr ?_, .inr ?_, trivial⟩
          · (with_reducible refine FixB.of ?_ ?_; rfl; intro w' hS; have s0 := H6h.out.below hS h6l; have sd := Hiu.out; clear hS; unfold Oper.wp; go_simp; first | done | exact Below.refl _ _)
          · (with_reducible refine FixB.of ?_ ?_; rfl; intro w' hS; have s0 := H6h.out.below hS h6l; have sd := Hiu.out; clear hS; unfold Oper.wp; go_simp; first | done | exact Below.refl _ _)
          · (with_reducible refine FixB.of ?_ ?_; rfl; intro w' hS; have s0 := H6h.out.below hS h6l; have sd := Hiu.out; clear hS; unfold Oper.wp; go_simp; first | done | exact Below.refl _ _)
          · (with_reducible refine FixB.of ?_ ?_; rfl; intro w' hS; have s0 := H6h.out.below hS h6l; have sd := Hiu.out; clear hS; unfold Oper.wp; go_simp; first | done | exact Below.refl _ _)
          · (with_reducible refine FixB.of ?_ ?_; rfl; intro w' hS; have s3 := Lib.hid hS; unfold Oper.wp; clear hS; go_simp; refine (l01Rank_any z _ (by assumption)).mono ?_; rintro e w1 ⟨rfl, hb⟩; exact ⟨rfl, hb⟩)
          · (with_reducible refine FixB.of ?_ ?_; rfl; intro w' hS; have s0 := H6h.out.below hS h6l; have sd := Hiu.out; clear hS; unfold Oper.wp; go_simp; first | done | exact Below.refl _ _)
          · (with_reducible refine FixB.of ?_ ?_; rfl; intro w' hS; have s0 := H6h.out.below hS h6l; have sd := Hiu.out; clear hS; unfold Oper.wp; go_simp; first | done | exact Below.refl _ _)
          · (with_reducible refine FixB.of ?_ ?_; rfl; intro w' hS; have s0 := H6h.out.below hS h6l; have sd := Hiu.out; clear hS; unfold Oper.wp; go_simp; first | done | exact Below.refl _ _)
          · (with_reducible refine FixB.of ?_ ?_; rfl; intro w' hS; have s0 := H6h.out.below hS h6l; have sd := Hiu.out; clear hS; unfold Oper.wp; go_simp; first | done | exact Below.refl _ _)
          · (with_reducible refine FixB.of ?_ ?_; rfl; intro w' hS; have s0 := H6h.out.below hS h6l; have sd := Hiu.out; clear hS; unfold Oper.wp; go_simp; first | done | exact Below.refl _ _)
          · (with_reducible refine FixB.of ?_ ?_; rfl; intro w' hS; have s0 := H6h.out.below hS h6l; have sd := Hiu.out; clear hS; unfold Oper.wp; go_simp; first | done | exact Below.refl _ _)
        case hQ =>
        intro wc hS _
        have HB2 := Lib.hid hS
        clear hS
        have H63 := H6h.out.below HB2.out H6h.out.lt
        have Hb3 := Lib.hid (Hb.out.trans (HB2.out.mono Hb.out.size))
        have Ho3 := Lib.hid (Ho.out.below HB2.out (Nat.le_refl _))
        have hsz := Hb3.out.size
        have hi := Hd.out
        clear x0 x1 x2 x3 x4 x5 H6h Ho Hb HB2 Hd Hiu
        cases d
        · have hf : (E.take (q + 1)).filter isUnit = L := by rw [Hfs.out, ← hi]; simp
          have Hf := Lib.hid hf
          clear hf hi H63
          go_wp2_with fail
          go_roundw
          case rel => exact ⟨q + 1, by go_num, by omega, Hb3.out, by rw [Hf.out]; exact Ho3.out⟩
          case measure => simp [intOf]; omega
        · have hf : (E.take (q + 1)).filter isUnit = L ++ [z] := by rw [Hfs.out, ← hi]; simp
          have Hf := Lib.hid hf
          obtain ⟨x0, x1, x2, x3, x4, x5⟩ := H63
          clear hf hi
          go_wp2_with (at_builtin; refine wpList_pushM rfl (.tmp 34) (.tmp 39) rfl w1.heap.size (.slice A1 k1 c1) L rfl (Ho3.out.alloc _) k1 Hk1.out wc.heap.size 1 z rfl (Blk.six (Blk.new _ _ _)) (by omega) (by simp; omega) (wc.heap.size + 1) (by simp) ?_; intro g' cap w4 ho' hgr hg' hlt'; have Hb4 := Lib.hid (((Ho3.out.alloc (.cells (mc z) 31)).bel (Hb3.out.alloc hsz _) hgr (Nat.le_refl _) (by simp; omega))); have Ho4 := Lib.hid ho'; clear ho' hgr hg' hlt')
          go_roundw
          case rel => exact ⟨q + 1, by go_num, by omega, Hb4.out, by rw [Hf.out]; exact Ho4.out⟩
          case measure => simp [intOf]; omega
      · obtain rfl : q = N := by omega
        have hqi : ¬ ((q : Int) < (q : Int)) := by omega
        have hRL : thatR unitB ms = L := by rw [HR.out, HL.out, List.take_of_length_le (by rw [HN.out]; exact Nat.le_refl _)]
        have HRL := Lib.hid hRL
        have Hb2 := Lib.hid (Hb1.out.trans (Hb.out.mono Hb1.out.size))
        clear hRL
        go_wp2_with fail
        go_ret2
        exact .mk A1 c1 (by rw [HRL.out, Hk1.out, Hc.out] <;> rfl) (by rw [HRL.out]; exact Ho.out.rdA) Hb2.out
  · have HR := Lib.hid (that_bad (p := unitB) hc)
    have hne : (elC ms [] != 0) = true := by simpa using hc
    clear hc
    go_enter Try.func75, Try.ntmps75
    go_wp2_with fail
    refine (l02Elements_any A none n c 0 0 ms [] _ Hx.out Rd.nil_ Hn.out rfl hb (by decide)).mono ?_
    rintro e w1 ⟨A', c', rfl, hr, hb1⟩
    clear hr
    go_wp2
    go_ret2
    exact .mk none 0 (by rw [HR.out] <;> rfl) (by rw [HR.out]; exact Rd.nil_) hb1

end Go.Proofs.Ytknknljkmkfmoaa
