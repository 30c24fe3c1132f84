/- Contracts of UnitsOf on both sides; the lists are as each theorem states. Contracts of the greatest number of a list, on both sides, of the count of classes and of the test of a kind; conditions as each theorem states. Contracts of the number of a set's bits, of the numbers that a set has, and of the order of lists; sets below 64, lists of at most 300 numbers. Contract of the reference's ascending lists of so many numbers; fewer than seven numbers. Contracts of the reference's search for a map's number and of its search for what an element reaches; conditions as each theorem states. What the reference's search reaches: plain laws. Contract of the reference's search for what an element reaches; conditions as the theorem states. Contract of the reference's elements with the numbers of some of them; conditions as the theorem states. Contracts of IsUnder on both sides; the lists are as each theorem states. Contracts of IsRegular on both sides; the lists are as each theorem states. Contract of the program's IsRegular; the lists are as the theorem states. Contract of the program's numbering of classes by a predicate of two places; at most 300 places. Contracts of the program's numbers of classes and their count; the monoid has at most 300 elements. Plain laws of the least generating parts; no program in sight. The law on elements in plain words: units, zeros, centres, commuting and generating parts; no program in sight; the lists are as each theorem states. Results of the laws' calls in one form each; no conditions beyond those that the theorems state. Contracts of the source's beginning and of a pick; no conditions beyond those that each theorem states. Contract of a drawn order of at most five numbers; no conditions beyond those that the theorems state. Contracts of a drawn map; no conditions beyond those that the theorems state. -/
import Derived.Test.YtchjegojcpbfpaaGreatQE08
import Derived.Deep.DeepAppendWide
set_option linter.unusedSimpArgs false
set_option linter.unusedVariables false
namespace Go.Proofs.YtchjegojcpbfpaaGreat
open Go.RowKit
set_option maxRecDepth 100000
set_option linter.unusedSimpArgs false
set_option linter.unusedVariables false
def isUnit (f : M) : Bool := decide ((rk f : Int) = f.p)
theorem unit1_any {n : Int} {B g : Nat} {E : List M} {us : List (List Int)} (i : Nat) (w : World) (h : MonAt n B g E us w) (hm : Mnd n E) (hi : i < E.length) :
    Calls Tryz.prog 50 #[.pointer (some ⟨g, 0, none⟩), I i] w fun e w' => e = .returned (.bool (isUnit (gm E i))) ∧ Below w.heap.size w w' := by
  obtain ⟨_, ev, wv, pl, vs, hM, hP, hO, _⟩ := h
  obtain ⟨gE, cE, rfl⟩ := hO.some_ (by omega)
  have c0 := hM.c0
  have hv := (hm.ok _ (gm_mem hi)).1
  have h6 := RdM.at_ hO.rd (k := i) hi
  obtain ⟨b', off', e, _, h6⟩ := h6
  injection e with e
  injection e with e1 e2 _
  subst e1 e2
  rw [Nat.zero_add] at h6
  obtain ⟨f, hf⟩ : ∃ f, f = gm E i := ⟨_, rfl⟩
  rw [← hf] at h6 hv ⊢
  obtain ⟨x0, x1, x2, x3, x4, x5⟩ := h6
  have ki : (i : Int) < (E.length : Int) := by omega
  clear hM hP hO hf
  go_enter Tryz.func50, Tryz.ntmps50
  go_wp2_with fail
  refine (isPerm_any f w hv).mono ?_
  rintro e w1 ⟨rfl, hb1⟩
  go_wp2
  go_ret
  exact ⟨rfl, hb1⟩
def unitB (E : List M) (i : Nat) : Bool := isUnit (gm E i)
theorem unitF_any (A : Option Addr) (n c : Nat) (ms : List M) (w : World) (hx : RdM w w.heap.size A ms) (hn : ms.length = n) (hA : A = none → n = 0 ∧ c = 0) (hb : n < 536870912) :
    Calls Tryz.prog 7 #[.slice A n c] w (RetM (thatR unitB ms) (elC ms []) w) := by
  have H := Lib.hid (elementsThat_any A n c ms 50 #[] unitB w hx hn hA hb (enters_of Tryz.func50 (by kernel_rfl) rfl)
    fun E ps hE B g us w1 hM _ i hi => unit1_any i w1 hM hE.mnd hi)
  clear hx hn hA
  go_enter Tryz.func7, Tryz.ntmps7
  go_wp2_with fail
  refine H.out.mono ?_
  rintro e w1 ⟨v, rfl, ho, hb1⟩
  obtain ⟨A', c', rfl, _⟩ := ho.form
  have Ho := Lib.hid ho
  clear ho
  go_wp2
  go_ret2
  exact .mk _ rfl Ho.out hb1
theorem that_unit {ms : List M} : thatR unitB ms = (elR ms []).filter isUnit := thatE_filter _ _
theorem SpecUnits_any (A : Option Addr) (n c : Nat) (ms : List M) (w : World) (hx : RdM w w.heap.size A ms) (hn : ms.length = n) (hb : n < 1073741824) :
    Calls Tryz.prog 8 #[.slice A n c] w (RetS (thatR unitB ms) (elC ms []) w) := by
  have Hx := Lib.hid hx
  have Hn := Lib.hid hn
  clear hx hn
  by_cases hc : elC ms [] = 0
  · obtain ⟨E, ps, hE⟩ := elC_el hc
    have hR := that_unit (ms := ms)
    rw [hE.r] at hR
    have hlen := hE.len
    have hpos := hE.pos
    have HEv : Hid (∀ i, i < E.length → Valid (gm E i)) := fun i hi => (hE.mnd.ok _ (gm_mem hi)).1
    have HR := Lib.hid hR
    have HE := Lib.hid hE
    have Hc := Lib.hid hc
    clear hE hc hR
    go_enter Tryz.func8, Tryz.ntmps8
    go_wp2_with fail
    refine (l02Elements_any A none n c 0 0 ms [] _ Hx.out Rd.nil_ Hn.out rfl hb (by decide)).mono ?_
    rintro e w1 ⟨A', c', rfl, hr, hb1⟩
    rw [HE.out.r] at hr ⊢
    rw [Hc.out]
    obtain ⟨b, off, rfl, hbb, _⟩ := RdM.at_ hr hpos
    have Hr := Lib.hid hr
    have Hb1 := Lib.hid hb1
    have hz1 := hb1.size
    obtain ⟨N, hN⟩ : ∃ N, E.length = N := ⟨_, rfl⟩
    rw [hN] at hlen hpos HEv ⊢
    have HN := Lib.hid hN
    clear hr hb1 hN
    go_wp2_with fail
    go_loopw [6, 7] (fun v i wr => ∃ q : Nat, i = .int .i64 q ∧ q ≤ N ∧ Below w1.heap.size w1 wr ∧ OwM 31 wr w1.heap.size v ((E.take q).filter isUnit)) (fun _ i _ => N - (intOf i).toNat)
    case atStart => exact ⟨0, rfl, by omega, (Below.refl _ _).alloc (Nat.le_refl _) _, by simpa using OwM.made (Nat.le_refl _)⟩
    case round =>
      obtain ⟨q, rfl, hq, hb, ho⟩ := hrel
      obtain ⟨L, hL⟩ : ∃ L, L = (E.take q).filter isUnit := ⟨_, rfl⟩
      rw [← hL] at ho
      have hLl : L.length ≤ 300 := by rw [hL]; have := filter_len E isUnit q; have := HN.out; omega
      have HL := Lib.hid hL
      obtain ⟨A1, c1, hv, _⟩ := ho.form
      obtain ⟨k1, hk1⟩ : ∃ k1, L.length = k1 := ⟨_, rfl⟩
      rw [hk1] at hv hLl
      subst hv
      have Hk1 := Lib.hid hk1
      have Hb := Lib.hid hb
      have Ho := Lib.hid ho
      clear hb ho hL hk1
      by_cases hqN : q < N
      · have hqi : (q : Int) < (N : Int) := by omega
        have hv := HEv.out q hqN
        obtain ⟨z, hzz⟩ : ∃ z, z = gm E q := ⟨_, rfl⟩
        have H6 := (RdM.six (Rd.more (Rd.below Hr.out Hb.out) Hb.out.size) (k := q) (by rw [HN.out]; exact hqN)).1
        rw [← hzz] at H6 hv
        have H6h := Lib.hid H6
        have hfs := filter_take (E := E) (P := isUnit) (r := q) (by rw [HN.out]; exact hqN)
        rw [← HL.out, ← hzz] at hfs
        obtain ⟨x0, x1, x2, x3, x4, x5⟩ := H6
        have Hfs := Lib.hid hfs
        clear hzz hfs
        have hp := hv.p5
        have hp1 := hv.p1
        have hiu : ((rk z : Int) == z.p) = isUnit z := by unfold isUnit; rfl
        obtain ⟨d, hd⟩ : ∃ d, d = isUnit z := ⟨_, rfl⟩
        rw [← hd] at hiu
        have Hiu := Lib.hid hiu
        have Hd := Lib.hid hd
        have hvh := Lib.hid hv
        have h6l := H6h.out.lt
        have hpb := Hb.out.size
        clear hiu hd
        go_wp2_with fail
        refine wp_region_same [] rfl (by kernel_rfl) (by kernel_rfl) (by kernel_rfl) (fun w' => Below wr.heap.size wr w') _
          [.slice (some ⟨b, off, none⟩) N c', I q, .pointer (some ⟨b, off + q * 6, none⟩), .agg (mc z), I (rk z), .slice (some ⟨b, off, none⟩) N c', I q, .pointer (some ⟨b, off + q * 6, none⟩), .pointer (some ⟨b, off + q * 6, none⟩), I z.p, .bool d]
          (by simp only [putAll, List.setIfInBounds_toArray, List.set_cons_succ, List.set_cons_zero]; rfl) (Below.refl _ _).drew ?hop ?hQ
        case hop =>
          refine FixBL.toL (fun w' w'' hS hb => hS.trans (hb.mono hS.size)) _ _ ?_
          refine ⟨.inr ?_, .inr ?_, .inr ?_, .inr ?_, .inr ?_, .inr ?_, .inr ?_, .inr ?_, .inr ?_, .inr ?_, .inr ?_, trivial⟩
          · (with_reducible refine FixB.of ?_ ?_; rfl; intro w' hS; have s0 := H6h.out.below hS h6l; have sd := Hiu.out; clear hS; unfold Oper.wp; go_simp; first | done | exact Below.refl _ _)
          · (with_reducible refine FixB.of ?_ ?_; rfl; intro w' hS; have s0 := H6h.out.below hS h6l; have sd := Hiu.out; clear hS; unfold Oper.wp; go_simp; first | done | exact Below.refl _ _)
          · (with_reducible refine FixB.of ?_ ?_; rfl; intro w' hS; have s0 := H6h.out.below hS h6l; have sd := Hiu.out; clear hS; unfold Oper.wp; go_simp; first | done | exact Below.refl _ _)
          · (with_reducible refine FixB.of ?_ ?_; rfl; intro w' hS; have s0 := H6h.out.below hS h6l; have sd := Hiu.out; clear hS; unfold Oper.wp; go_simp; first | done | exact Below.refl _ _)
          · (with_reducible refine FixB.of ?_ ?_; rfl; intro w' hS; have s3 := Lib.hid hS; unfold Oper.wp; clear hS; go_simp; refine (l01Rank_any z _ (by assumption)).mono ?_; rintro e w1 ⟨rfl, hb⟩; exact ⟨rfl, hb⟩)
          · (with_reducible refine FixB.of ?_ ?_; rfl; intro w' hS; have s0 := H6h.out.below hS h6l; have sd := Hiu.out; clear hS; unfold Oper.wp; go_simp; first | done | exact Below.refl _ _)
          · (with_reducible refine FixB.of ?_ ?_; rfl; intro w' hS; have s0 := H6h.out.below hS h6l; have sd := Hiu.out; clear hS; unfold Oper.wp; go_simp; first | done | exact Below.refl _ _)
          · (with_reducible refine FixB.of ?_ ?_; rfl; intro w' hS; have s0 := H6h.out.below hS h6l; have sd := Hiu.out; clear hS; unfold Oper.wp; go_simp; first | done | exact Below.refl _ _)
          · (with_reducible refine FixB.of ?_ ?_; rfl; intro w' hS; have s0 := H6h.out.below hS h6l; have sd := Hiu.out; clear hS; unfold Oper.wp; go_simp; first | done | exact Below.refl _ _)
          · (with_reducible refine FixB.of ?_ ?_; rfl; intro w' hS; have s0 := H6h.out.below hS h6l; have sd := Hiu.out; clear hS; unfold Oper.wp; go_simp; first | done | exact Below.refl _ _)
          · (with_reducible refine FixB.of ?_ ?_; rfl; intro w' hS; have s0 := H6h.out.below hS h6l; have sd := Hiu.out; clear hS; unfold Oper.wp; go_simp; first | done | exact Below.refl _ _)
        case hQ =>
        intro wc hS _
        have HB2 := Lib.hid hS
        clear hS
        have H63 := H6h.out.below HB2.out H6h.out.lt
        have Hb3 := Lib.hid (Hb.out.trans (HB2.out.mono Hb.out.size))
        have Ho3 := Lib.hid (Ho.out.below HB2.out (Nat.le_refl _))
        have hsz := Hb3.out.size
        have hi := Hd.out
        clear x0 x1 x2 x3 x4 x5 H6h Ho Hb HB2 Hd Hiu
        cases d
        · have hf : (E.take (q + 1)).filter isUnit = L := by rw [Hfs.out, ← hi]; simp
          have Hf := Lib.hid hf
          clear hf hi H63
          go_wp2_with fail
          go_roundw
          case rel => exact ⟨q + 1, by go_num, by omega, Hb3.out, by rw [Hf.out]; exact Ho3.out⟩
          case measure => simp [intOf]; omega
        · have hf : (E.take (q + 1)).filter isUnit = L ++ [z] := by rw [Hfs.out, ← hi]; simp
          have Hf := Lib.hid hf
          obtain ⟨x0, x1, x2, x3, x4, x5⟩ := H63
          clear hf hi
          go_wp2_with (at_builtin; refine wpList_pushM rfl (.tmp 34) (.tmp 39) rfl w1.heap.size (.slice A1 k1 c1) L rfl (Ho3.out.alloc _) k1 Hk1.out wc.heap.size 1 z rfl (Blk.six (Blk.new _ _ _)) (by omega) (by simp; omega) (wc.heap.size + 1) (by simp) ?_; intro g' cap w4 ho' hgr hg' hlt'; have Hb4 := Lib.hid (((Ho3.out.alloc (.cells (mc z) 31)).bel (Hb3.out.alloc hsz _) hgr (Nat.le_refl _) (by simp; omega))); have Ho4 := Lib.hid ho'; clear ho' hgr hg' hlt')
          go_roundw
          case rel => exact ⟨q + 1, by go_num, by omega, Hb4.out, by rw [Hf.out]; exact Ho4.out⟩
          case measure => simp [intOf]; omega
      · obtain rfl : q = N := by omega
        have hqi : ¬ ((q : Int) < (q : Int)) := by omega
        have hRL : thatR unitB ms = L := by rw [HR.out, HL.out, List.take_of_length_le (by rw [HN.out]; exact Nat.le_refl _)]
        have HRL := Lib.hid hRL
        have Hb2 := Lib.hid (Hb1.out.trans (Hb.out.mono Hb1.out.size))
        clear hRL
        go_wp2_with fail
        go_ret2
        exact .mk A1 c1 (by rw [HRL.out, Hk1.out, Hc.out] <;> rfl) (by rw [HRL.out]; exact Ho.out.rdA) Hb2.out
  · have HR := Lib.hid (that_bad (p := unitB) hc)
    have hne : (elC ms [] != 0) = true := by simpa using hc
    clear hc
    go_enter Tryz.func8, Tryz.ntmps8
    go_wp2_with fail
    refine (l02Elements_any A none n c 0 0 ms [] _ Hx.out Rd.nil_ Hn.out rfl hb (by decide)).mono ?_
    rintro e w1 ⟨A', c', rfl, hr, hb1⟩
    clear hr
    go_wp2
    go_ret2
    exact .mk none 0 (by rw [HR.out] <;> rfl) (by rw [HR.out]; exact Rd.nil_) hb1
end Go.Proofs.YtchjegojcpbfpaaGreat

namespace Go.Proofs.YtchjegojcpbfpaaGreat
open Go.RowKit
set_option maxRecDepth 100000
set_option linter.unusedSimpArgs false
set_option linter.unusedVariables false
theorem RdI.at0' {w : World} {B : Nat} {b off : Nat} {zs : List Int} (h : RdI w B (some ⟨b, off, none⟩) zs) {k : Nat} (hk : k < zs.length) : w.cell? ⟨b, off + k, none⟩ = some (I (gi zs k)) := by
  obtain ⟨b', off', e, _, c⟩ := h.at_ hk
  injection e with e
  injection e with e1 e2 _
  subst e1 e2
  exact c
theorem OwI.rdB {e : TypeId} {w : World} {B n c : Nat} {A : Option Addr} {zs : List Int} (h : OwI e w B (.slice A n c) zs) : RdI w w.heap.size A zs := by
  obtain ⟨A', c', e1, h⟩ := h.form
  injection e1 with e1
  subst e1
  exact h
end Go.Proofs.YtchjegojcpbfpaaGreat

namespace Go.Proofs.YtchjegojcpbfpaaGreat
open Go.RowKit
set_option maxRecDepth 100000
set_option linter.unusedSimpArgs false
set_option linter.unusedVariables false
def pc1 (x : Int) : Int := IntKind.u64.wrap (bits BinOp.and IntKind.u64 (x / 2) 6148914691236517205 + bits BinOp.and IntKind.u64 x 6148914691236517205)
def pc2 (x : Int) : Int := IntKind.u64.wrap (bits BinOp.and IntKind.u64 (x / 4) 3689348814741910323 + bits BinOp.and IntKind.u64 x 3689348814741910323)
def pc3 (x : Int) : Int := bits BinOp.and IntKind.u64 (IntKind.u64.wrap (x / 16 + x)) 1085102592571150095
def pc4 (x : Int) : Int := IntKind.u64.wrap (x + x / 256)
def pc5 (x : Int) : Int := IntKind.u64.wrap (x + x / 65536)
def pc6 (x : Int) : Int := IntKind.u64.wrap (x + x / 4294967296)
def pcOk (x : Int) : Bool := decide (0 ≤ x) && decide (x < 4611686018427387904)
theorem pc_all : ∀ u : Fin 64, (pcOk (pc1 u.val) && pcOk (pc2 (pc1 u.val)) && pcOk (pc3 (pc2 (pc1 u.val))) && pcOk (pc4 (pc3 (pc2 (pc1 u.val)))) && pcOk (pc5 (pc4 (pc3 (pc2 (pc1 u.val))))) && pcOk (pc6 (pc5 (pc4 (pc3 (pc2 (pc1 u.val))))))) = true ∧ bits BinOp.and IntKind.i64 (pc6 (pc5 (pc4 (pc3 (pc2 (pc1 u.val)))))) 127 = (bitsL u.val).length := by decide +kernel
theorem pcOk_iff {x : Int} (h : pcOk x = true) : 0 ≤ x ∧ x < 4611686018427387904 := by unfold pcOk at h; simp at h; omega
theorem ones64_any (u : Nat) (hu : u < 64) (w : World) : Calls Tryz.prog 102 #[.int .u64 u] w fun e w' => e = .returned (I (bitsL u).length) ∧ w = w' := by
  obtain ⟨p, hp⟩ := pc_all ⟨u, hu⟩
  simp only [Bool.and_eq_true] at p hp
  obtain ⟨⟨⟨⟨⟨p1, p2⟩, p3⟩, p4⟩, p5⟩, p6⟩ := p
  obtain ⟨x1, e1⟩ : ∃ x1, x1 = pc1 u := ⟨_, rfl⟩
  rw [← e1] at p1 p2 p3 p4 p5 p6 hp
  obtain ⟨x2, e2⟩ : ∃ x2, x2 = pc2 x1 := ⟨_, rfl⟩
  rw [← e2] at p2 p3 p4 p5 p6 hp
  obtain ⟨x3, e3⟩ : ∃ x3, x3 = pc3 x2 := ⟨_, rfl⟩
  rw [← e3] at p3 p4 p5 p6 hp
  obtain ⟨x4, e4⟩ : ∃ x4, x4 = pc4 x3 := ⟨_, rfl⟩
  rw [← e4] at p4 p5 p6 hp
  obtain ⟨x5, e5⟩ : ∃ x5, x5 = pc5 x4 := ⟨_, rfl⟩
  rw [← e5] at p5 p6 hp
  obtain ⟨x6, e6⟩ : ∃ x6, x6 = pc6 x5 := ⟨_, rfl⟩
  rw [← e6] at p6 hp
  replace p1 := pcOk_iff p1
  replace p2 := pcOk_iff p2
  replace p3 := pcOk_iff p3
  replace p4 := pcOk_iff p4
  replace p5 := pcOk_iff p5
  replace p6 := pcOk_iff p6
  have f1 : IntKind.u64.wrap (bits BinOp.and IntKind.u64 ((u : Int) / 2) 6148914691236517205 + bits BinOp.and IntKind.u64 (u : Int) 6148914691236517205) = x1 := e1.symm
  have f2 : IntKind.u64.wrap (bits BinOp.and IntKind.u64 (x1 / 4) 3689348814741910323 + bits BinOp.and IntKind.u64 x1 3689348814741910323) = x2 := e2.symm
  have f3 : bits BinOp.and IntKind.u64 (x2 / 16 + x2) 1085102592571150095 = x3 := by rw [e3]; unfold pc3; rw [IntWalk.u64_in _ ⟨by omega, by omega⟩]
  have f4 : IntKind.u64.wrap (x3 + x3 / 256) = x4 := e4.symm
  have f5 : IntKind.u64.wrap (x4 + x4 / 65536) = x5 := e5.symm
  have f6 : IntKind.u64.wrap (x5 + x5 / 4294967296) = x6 := e6.symm
  have g1 : IntKind.u64.wrap x1 = x1 := IntWalk.u64_in _ ⟨by omega, by omega⟩
  have g2 : IntKind.u64.wrap x2 = x2 := IntWalk.u64_in _ ⟨by omega, by omega⟩
  have g3 : IntKind.u64.wrap x3 = x3 := IntWalk.u64_in _ ⟨by omega, by omega⟩
  have g4 : IntKind.u64.wrap x4 = x4 := IntWalk.u64_in _ ⟨by omega, by omega⟩
  have g5 : IntKind.u64.wrap x5 = x5 := IntWalk.u64_in _ ⟨by omega, by omega⟩
  have g6 : IntKind.u64.wrap x6 = x6 := IntWalk.u64_in _ ⟨by omega, by omega⟩
  have g7 : IntKind.i64.wrap x6 = x6 := IntWalk.i64_in _ ⟨by omega, by omega⟩
  have Hu := Lib.hid hu
  clear e1 e2 e3 e4 e5 e6 hu
  go_enter Tryz.func102, Tryz.ntmps102
  go_wp2_with fail
  go_ret
  exact ⟨rfl, rfl⟩
theorem ones_any (u : Nat) (hu : u < 64) (w : World) : Calls Tryz.prog 70 #[.int .u64 u] w fun e w' => e = .returned (I (bitsL u).length) ∧ w = w' := by
  have Hu := Lib.hid hu
  clear hu
  go_enter Tryz.func70, Tryz.ntmps70
  go_wp2_with (go_at_call 102; refine (ones64_any _ Hu.out _).mono ?_; rintro e w' ⟨rfl, rfl⟩)
  go_ret
  exact ⟨rfl, rfl⟩
def bitsTo (u k : Nat) : List Int := ((List.range k).filter fun j => u.testBit j).map fun (j : Nat) => (j : Int)
theorem bitsTo_step (u k : Nat) : bitsTo u (k + 1) = bitsTo u k ++ (if u.testBit k then [(k : Int)] else []) := by
  unfold bitsTo
  rw [List.range_succ, List.filter_append, List.map_append]
  cases h : u.testBit k <;> simp [h]
theorem bitsTo_len (u k : Nat) : (bitsTo u k).length ≤ k := by
  have h2 := List.length_filter_le (fun j => u.testBit j) (List.range k)
  unfold bitsTo
  simp at h2 ⊢
  omega
theorem bit_all : ∀ u : Fin 64, ∀ r : Fin 6, (bits BinOp.and IntKind.u64 ((u.val : Int) / 2 ^ r.val) 1 == 1) = u.val.testBit r.val := by decide +kernel
theorem chosen_any (u : Nat) (hu : u < 64) (w : World) : Calls Tryz.prog 69 #[.int .u64 u] w fun e w' => ∃ v, e = .returned v ∧ OwI 2 w' w.heap.size v (bitsL u) ∧ Below w.heap.size w w' := by
  have Hu := Lib.hid hu
  clear hu
  go_enter Tryz.func69, Tryz.ntmps69
  go_wp2_with fail
  go_loopw [5, 3] (fun i v wr => ∃ r : Nat, i = .int .i64 r ∧ r ≤ 6 ∧ Below w.heap.size w wr ∧ OwI 2 wr w.heap.size v (bitsTo u r)) (fun i _ _ => 6 - (intOf i).toNat)
  case atStart => exact ⟨0, rfl, by omega, Below.refl _ _, OwI.nil_⟩
  case round =>
    obtain ⟨r, rfl, hr, hb', ho⟩ := hrel
    have hdl := bitsTo_len u r
    obtain ⟨Av, cv, hv, _⟩ := ho.form
    subst hv
    have Hb := Lib.hid hb'
    have Ho := Lib.hid ho
    have hsz := hb'.size
    clear hb' ho
    by_cases hrn : r < 6
    · have hrz : (r : Int) < 6 := by omega
      have hbt := bit_all ⟨u, Hu.out⟩ ⟨r, hrn⟩
      simp only at hbt
      have hst := bitsTo_step u r
      cases hc : u.testBit r
      · rw [hc] at hbt hst
        have HE : Hid (bitsTo u (r + 1) = bitsTo u r) := by show _ = _; rw [hst]; simp
        clear hst hc
        go_wp2_with fail
        go_roundw
        case rel => exact ⟨r + 1, by go_num, by omega, Hb.out, by rw [HE.out]; exact Ho.out⟩
        case measure => simp [intOf]; omega
      · rw [hc] at hbt hst
        have HE : Hid (bitsTo u (r + 1) = bitsTo u r ++ [(r : Int)]) := hst
        clear hst hc
        go_wp2_with (at_builtin; refine wpList_pushI rfl (.tmp 13) (.tmp 15) rfl w.heap.size (.slice Av (bitsTo u r).length cv) (bitsTo u r) rfl (Ho.out.alloc _) wr.heap.size 1 r rfl ((Blk.new _ _ _).cell 0) (by omega) (by simp; omega) (wr.heap.size + 1) (by simp) ?_; intro g' cap w4 ho' hgr hg' hlt'; have Hb4 := Lib.hid ((Ho.out.alloc (.cells #[I r] 2)).bel (Hb.out.alloc (by omega) _) hgr (Nat.le_refl _) (by simp; omega)); have Ho4 := Lib.hid ho'; clear ho' hgr hg' hlt')
        go_roundw
        case rel => exact ⟨r + 1, by go_num, by omega, Hb4.out, by rw [HE.out]; exact Ho4.out⟩
        case measure => simp [intOf]; omega
    · obtain rfl : r = 6 := by omega
      go_wp2_with fail
      go_ret
      exact ⟨_, rfl, Ho.out, Hb.out⟩
def cmpLs : List Int → List Int → Int
  | [], [] => 0
  | [], _ :: _ => -1
  | _ :: _, [] => 1
  | a :: xs, b :: ys => if cmpI a b = 0 then cmpLs xs ys else cmpI a b
theorem cmpLs_neg : ∀ {a b : List Int}, cmpLs a b < 0 ↔ lexI a b = true
  | [], [] => by simp [cmpLs, lexI]
  | [], b :: ys => by simp [cmpLs, lexI]
  | a :: xs, [] => by simp [cmpLs, lexI]
  | a :: xs, b :: ys => by
    rw [cmpLs, lexI]
    by_cases h1 : a < b
    · rw [cmpI_lt h1, if_pos h1]; simp
    · by_cases h2 : b < a
      · rw [cmpI_gt h2, if_neg h1, if_pos h2]; simp
      · rw [cmpI_eq (show a = b by omega), if_neg h1, if_neg h2, if_pos rfl]
        exact cmpLs_neg
theorem gi_drop {xs : List Int} {i : Nat} (h : i < xs.length) : xs.drop i = gi xs i :: xs.drop (i + 1) := by
  rw [List.drop_eq_getElem_cons h]
  simp [gi, List.getD, h]
theorem cmpLs_go {xs ys : List Int} {i : Nat} (h1 : i < xs.length) (h2 : i < ys.length) (h : cmpI (gi xs i) (gi ys i) = 0) : cmpLs (xs.drop i) (ys.drop i) = cmpLs (xs.drop (i + 1)) (ys.drop (i + 1)) := by
  rw [gi_drop h1, gi_drop h2, cmpLs, if_pos h]
theorem cmpLs_stop {xs ys : List Int} {i : Nat} (h1 : i < xs.length) (h2 : i < ys.length) (h : cmpI (gi xs i) (gi ys i) ≠ 0) : cmpLs (xs.drop i) (ys.drop i) = cmpI (gi xs i) (gi ys i) := by
  rw [gi_drop h1, gi_drop h2, cmpLs, if_neg h]
theorem cmpLs_long {xs ys : List Int} {i : Nat} (h1 : i < xs.length) (h2 : ys.length ≤ i) : cmpLs (xs.drop i) (ys.drop i) = 1 := by
  rw [gi_drop h1, List.drop_eq_nil_of_le h2, cmpLs]
theorem cmpLs_short {xs ys : List Int} {i : Nat} (h1 : xs.length ≤ i) (h2 : i < ys.length) : cmpLs (xs.drop i) (ys.drop i) = -1 := by
  rw [gi_drop h2, List.drop_eq_nil_of_le h1, cmpLs]
theorem cmpLs_both {xs ys : List Int} {i : Nat} (h1 : xs.length ≤ i) (h2 : ys.length ≤ i) : cmpLs (xs.drop i) (ys.drop i) = 0 := by
  rw [List.drop_eq_nil_of_le h1, List.drop_eq_nil_of_le h2, cmpLs]
theorem slCompare_any (A1 A2 : Option Addr) (n1 c1 n2 c2 : Nat) (xs ys : List Int) (w : World) (hx : RdI w w.heap.size A1 xs) (hy : RdI w w.heap.size A2 ys) (hn : xs.length = n1) (hm : ys.length = n2) (hb : n1 ≤ 300) (hb2 : n2 ≤ 300) :
    Calls Tryz.prog 71 #[.slice A1 n1 c1, .slice A2 n2 c2] w fun e w' => e = .returned (I (cmpLs xs ys)) ∧ Below w.heap.size w w' := by
  have Hx := Lib.hid hx
  have Hy := Lib.hid hy
  have Hn := Lib.hid hn
  have Hm := Lib.hid hm
  clear hx hy hn hm
  go_enter Tryz.func71, Tryz.ntmps71
  go_wp2_with fail
  go_loopw [11] (fun i wr => ∃ r : Nat, i = .int .i64 r ∧ r ≤ n1 ∧ r ≤ n2 ∧ Below w.heap.size w wr ∧ Hid (cmpLs xs ys = cmpLs (xs.drop r) (ys.drop r))) (fun i _ => n1 - (intOf i).toNat)
  case atStart => exact ⟨0, rfl, by omega, by omega, Below.refl _ _, by show _ = _; rw [List.drop_zero, List.drop_zero]⟩
  case round =>
    obtain ⟨r, rfl, hr1, hr2, hb', HE⟩ := hrel
    have Hb := Lib.hid hb'
    clear hb'
    by_cases h1 : r < n1
    · have h1z : (r : Int) < (n1 : Int) := by omega
      obtain ⟨b, off, rfl, hbb, x1⟩ := RdI.at_ (Hx.out.below Hb.out) (k := r) (by rw [Hn.out]; exact h1)
      by_cases h2 : r < n2
      · have h2z : (r : Int) < (n2 : Int) := by omega
        obtain ⟨b', off', rfl, hbb', x2⟩ := RdI.at_ (Hy.out.below Hb.out) (k := r) (by rw [Hm.out]; exact h2)
        by_cases hc : cmpI (gi xs r) (gi ys r) = 0
        · have HE2 : Hid (cmpLs xs ys = cmpLs (xs.drop (r + 1)) (ys.drop (r + 1))) := HE.out.trans (cmpLs_go (by rw [Hn.out]; exact h1) (by rw [Hm.out]; exact h2) hc)
          go_wp2_with (go_at_call 103; refine (compareI_any _ _ _).mono ?_; rintro e w' ⟨rfl, rfl⟩)
          go_roundw
          case rel => exact ⟨r + 1, by go_num, by omega, by omega, Hb.out, HE2⟩
          case measure => simp [intOf]; omega
        · have HE2 : Hid (cmpLs xs ys = cmpI (gi xs r) (gi ys r)) := HE.out.trans (cmpLs_stop (by rw [Hn.out]; exact h1) (by rw [Hm.out]; exact h2) hc)
          have hcb : (cmpI (gi xs r) (gi ys r) != 0) = true := by simpa using hc
          clear hc
          go_wp2_with (go_at_call 103; refine (compareI_any _ _ _).mono ?_; rintro e w' ⟨rfl, rfl⟩)
          go_ret
          exact ⟨by rw [HE2.out] <;> rfl, Hb.out⟩
      · have h2z : ¬ ((r : Int) < (n2 : Int)) := by omega
        have HE2 : Hid (cmpLs xs ys = 1) := HE.out.trans (cmpLs_long (by rw [Hn.out]; exact h1) (by rw [Hm.out]; omega))
        go_wp2_with fail
        go_ret
        exact ⟨by rw [HE2.out] <;> rfl, Hb.out⟩
    · have h1z : ¬ ((r : Int) < (n1 : Int)) := by omega
      by_cases h2 : n1 < n2
      · have h2z : (n1 : Int) < (n2 : Int) := by omega
        have HE2 : Hid (cmpLs xs ys = -1) := HE.out.trans (cmpLs_short (by rw [Hn.out]; omega) (by rw [Hm.out]; omega))
        go_wp2_with fail
        go_ret
        exact ⟨by rw [HE2.out] <;> rfl, Hb.out⟩
      · have h2z : ¬ ((n1 : Int) < (n2 : Int)) := by omega
        have HE2 : Hid (cmpLs xs ys = 0) := HE.out.trans (cmpLs_both (by rw [Hn.out]; omega) (by rw [Hm.out]; omega))
        go_wp2_with fail
        go_ret
        exact ⟨by rw [HE2.out] <;> rfl, Hb.out⟩
end Go.Proofs.YtchjegojcpbfpaaGreat

namespace Go.Proofs.YtchjegojcpbfpaaGreat
open Go.RowKit
set_option maxRecDepth 100000
set_option linter.unusedSimpArgs false
set_option linter.unusedVariables false
theorem OwI.hA {e : TypeId} {w : World} {B : Nat} {A : Option Addr} {n c : Nat} {zs : List Int} (h : OwI e w B (.slice A n c) zs) : A = none → n = 0 ∧ c = 0 := by
  rintro rfl
  rcases h.2 with ⟨h1, _⟩ | ⟨g, cap, cur, h1, _⟩
  · injection h1 with _ h2 h3
    exact ⟨h2, h3⟩
  · injection h1 with h1 _ _
    cases h1
def RdP (w : World) (B : Nat) (o : Option Nat) (vs : List Value) (L : List (List Int)) : Prop :=
  vs.length = L.length ∧ ∀ j, j < L.length → OwI 2 w B (gv vs j) (L.getD j []) ∧ ∀ g, (gv vs j).ownBlock = some g → o ≠ some g
section
variable {w w' : World} {B : Nat} {o : Option Nat} {vs : List Value} {L : List (List Int)}
theorem RdP.below {m : Nat} (h : RdP w B o vs L) (hb : Below m w w') (hm : w.heap.size ≤ m) : RdP w' B o vs L :=
  ⟨h.1, fun j hj => ⟨((h.2 j hj).1).below hb hm, (h.2 j hj).2⟩⟩
theorem RdP.mono {B' : Nat} (h : RdP w B o vs L) (hB : B' ≤ B) : RdP w B' o vs L :=
  ⟨h.1, fun j hj => ⟨((h.2 j hj).1).mono hB, (h.2 j hj).2⟩⟩
theorem RdP.nil_ : RdP w B o [] [] := ⟨rfl, fun j hj => by simp at hj⟩
theorem RdP.push (h : RdP w B o vs L) {u : Value} {zs : List Int} (hu : OwI 2 w B u zs) (hou : ∀ g, u.ownBlock = some g → o ≠ some g) {g' : Nat} (hgr : w.grownBy w' o) (hg' : o = some g' ∨ g' = w.heap.size) :
    RdP w' B (some g') (vs ++ [u]) (L ++ [zs]) := by
  have key : ∀ {v : Value} {ys : List Int}, OwI 2 w B v ys → (∀ g, v.ownBlock = some g → o ≠ some g) → OwI 2 w' B v ys ∧ ∀ g, v.ownBlock = some g → some g' ≠ some g := fun {v ys} h1 h2 => by
    refine ⟨h1.grown hgr h2, fun g hg e => ?_⟩
    injection e with e
    subst e
    rcases hg' with e | e
    · exact h2 g' hg e
    · have := (h1.lt g' hg).2; omega
  refine ⟨by simp [h.1], fun j hj => ?_⟩
  rw [List.length_append, List.length_singleton] at hj
  by_cases e : j < L.length
  · obtain ⟨h1, h2⟩ := h.2 j e
    have hv := h.1
    rw [gv_app (by omega), List.getD_eq_getElem?_getD, List.getElem?_append_left e, ← List.getD_eq_getElem?_getD]
    exact key h1 h2
  · obtain rfl : j = L.length := by omega
    have hv := h.1
    rw [gv_last hv, List.getD_eq_getElem?_getD, List.getElem?_append_right (Nat.le_refl _), Nat.sub_self]
    exact key hu hou
end
theorem OwV.rdA' {e : TypeId} {w : World} {B n c : Nat} {A : Option Addr} {vs : List Value} (h : OwV e w B (.slice A n c) vs) : RdV w w.heap.size A vs := by
  obtain ⟨A', c', e, h⟩ := h.form
  injection e with e1
  subst e1
  exact h
theorem RdV.at0' {w : World} {B : Nat} {b off : Nat} {vs : List Value} (h : RdV w B (some ⟨b, off, none⟩) vs) {k : Nat} (hk : k < vs.length) : w.cell? ⟨b, off + k, none⟩ = some (gv vs k) := by
  obtain ⟨b', off', e, _, c⟩ := h.at_ hk
  injection e with e
  injection e with e1 e2 _
  subst e1 e2
  exact c
def Mid (lo hi : Nat) (w2 w : World) : Prop := ∀ b, lo ≤ b → b < hi → w.heap[b]? = w2.heap[b]?
theorem RdP.keep {w w' : World} {B hi : Nat} {o : Option Nat} {vs : List Value} {L : List (List Int)} (h : RdP w B o vs L) (hm : Mid B hi w w') (hh : w.heap.size ≤ hi) : RdP w' B o vs L :=
  ⟨h.1, fun j hj => ⟨(h.2 j hj).1.keep fun g hg => hm g ((h.2 j hj).1.lt g hg).1 (by have := ((h.2 j hj).1.lt g hg).2; omega), (h.2 j hj).2⟩⟩
def partsTo (n f c i : Nat) : List (List Int) := (List.range' f (i - f)).flatMap fun j => (parts n (j + 1) c).map fun l => (j : Int) :: l
theorem partsTo_len : ∀ n : Fin 7, ∀ f : Fin 8, ∀ c : Fin 7, ∀ i : Fin 8, (partsTo n.val f.val c.val i.val).length ≤ 64 := by decide +kernel
theorem parts_len : ∀ n : Fin 7, ∀ f : Fin 8, ∀ c : Fin 8, (parts n.val f.val c.val).length ≤ 64 := by decide +kernel
theorem parts_rows : ∀ n : Fin 7, ∀ f : Fin 8, ∀ c : Fin 8, ((parts n.val f.val c.val).all fun l => l.length == c.val) = true := by decide +kernel
theorem parts_row {n f c m : Nat} (hn : n < 7) (hf : f < 8) (hc : c < 8) (hm : m < (parts n f c).length) : ((parts n f c).getD m []).length = c := by
  have h := List.all_eq_true.1 (parts_rows ⟨n, hn⟩ ⟨f, hf⟩ ⟨c, hc⟩) ((parts n f c)[m]) (List.getElem_mem hm)
  rw [List.getD_eq_getElem?_getD, List.getElem?_eq_getElem hm]
  simpa using h
theorem take_map (L : List (List Int)) (x : Int) {m : Nat} (h : m < L.length) : (L.take (m + 1)).map (fun l => x :: l) = (L.take m).map (fun l => x :: l) ++ [x :: L.getD m []] := by
  rw [List.take_add_one, List.map_append, List.getElem?_eq_getElem h, List.getD_eq_getElem?_getD, List.getElem?_eq_getElem h]
  rfl
theorem OwI.one2 {e : TypeId} {B : Nat} (w : World) (x : Int) (hb : B ≤ w.heap.size) : OwI e (w.alloc (.cells #[I x] e)) B (.slice (some ⟨w.heap.size, 0, none⟩) 1 1) [x] :=
  ⟨rfl, .inr ⟨w.heap.size, 1, #[I x], rfl, hb, Blk.new w _ _, Nat.le_refl _, by simp [maxLen], rfl, rfl⟩⟩
theorem partsTo_start (n f c : Nat) : partsTo n f c f = [] := by simp [partsTo]
theorem partsTo_step {n f c i : Nat} (h : f ≤ i) : partsTo n f c (i + 1) = partsTo n f c i ++ (parts n (i + 1) c).map fun l => (i : Int) :: l := by
  unfold partsTo
  rw [show i + 1 - f = (i - f) + 1 by omega, List.range'_concat]
  simp [show f + (i - f) = i by omega]
theorem partsTo_all (n f c : Nat) : parts n f (c + 1) = partsTo n f c n := rfl
def RetP (L : List (List Int)) (w : World) (e : Ending) (w' : World) : Prop := ∃ v vs, e = .returned v ∧ OwV 39 w' w.heap.size v vs ∧ RdP w' w.heap.size v.ownBlock vs L ∧ Below w.heap.size w w'
set_option maxHeartbeats 1000000 in
theorem l02Parts_any (n : Nat) (hn : n < 7) : ∀ (c : Nat), c < 8 → ∀ (f : Nat), f ≤ n → ∀ (w : World), Calls Tryz.prog 73 #[I n, I f, I c] w (RetP (parts n f c) w) := by
  intro c
  induction c with
  | zero =>
    intro hc f hf w
    go_enter Tryz.func73, Tryz.ntmps73
    go_wp2_with fail
    go_ret
    have hs : (w.alloc (Obj.cells #[] 2)).heap.size = w.heap.size + 1 := by simp
    have h1 := OwV.one (e := 39) (u := .slice (some ⟨w.heap.size, 0, none⟩) 0 0) (w := w.alloc (Obj.cells #[] 2)) (B := w.heap.size) (by simp)
    rw [hs] at h1
    refine ⟨_, _, rfl, h1, ⟨rfl, fun j hj => ?_⟩, ((Below.refl _ _).alloc (Nat.le_refl _) _).alloc (by simp) _⟩
    have hj0 : j = 0 := by simp [parts] at hj; omega
    subst hj0
    refine ⟨(OwI.made (Nat.le_refl _)).alloc _, fun g hg e => ?_⟩
    have hg1 : w.heap.size = g := Option.some.inj hg
    have e1 : w.heap.size + 1 = g := Option.some.inj e
    omega
  | succ c ih =>
    intro hc f hf w
    have Ih := Lib.hid ih
    clear ih
    have hcz : ¬ ((c : Int) + 1 = 0) := by omega
    go_enter Tryz.func73, Tryz.ntmps73
    go_wp2_with fail
    go_loopw [7, 8] (fun v t wr => ∃ (i : Nat) (vs : List Value), t = .int .i64 i ∧ f ≤ i ∧ i ≤ n ∧ Below w.heap.size w wr ∧ OwV 39 wr w.heap.size v vs ∧ RdP wr w.heap.size v.ownBlock vs (partsTo n f c i)) (fun _ t _ => n - (intOf t).toNat)
    case atStart => exact ⟨f, [], rfl, by omega, hf, (Below.refl _ _).alloc (Nat.le_refl _) _, World.ownsRow_made w #[] 0 (Nat.le_refl _) (by simp [maxLen]) (by simp), by rw [partsTo_start]; exact RdP.nil_⟩
    case round =>
      obtain ⟨i, vs, rfl, hfi, hin, hb', ho, hr⟩ := hrel
      have hl := Lib.hid hr.1
      have hlb := partsTo_len ⟨n, hn⟩ ⟨f, by omega⟩ ⟨c, by omega⟩ ⟨i, by omega⟩
      simp only at hlb
      obtain ⟨Av, cv, hv, _⟩ := ho.form
      subst hv
      have Hb := Lib.hid hb'
      have Ho := Lib.hid ho
      have Hr := Lib.hid hr
      have hsz := hb'.size
      clear hb' ho hr
      by_cases hi : i < n
      · have hiz : (i : Int) < (n : Int) := by omega
        have hpl := parts_len ⟨n, hn⟩ ⟨i + 1, by omega⟩ ⟨c, by omega⟩
        simp only at hpl
        go_wp2_with fail
        rw [show (i : Int) + 1 = ((i + 1 : Nat) : Int) by omega]
        refine (Ih.out (by omega) (i + 1) (by omega) wr).mono ?_
        rintro e w2 ⟨u, us, rfl, hou, hru, hbu⟩
        have hul := hru.1
        obtain ⟨Au, cu, hv2, _⟩ := hou.form
        subst hv2
        obtain ⟨K, hK⟩ : ∃ K, us.length = K := ⟨_, rfl⟩
        rw [hK] at hul hou hru ⊢
        obtain ⟨B2, hB2⟩ : ∃ B2, B2 = wr.heap.size := ⟨_, rfl⟩
        rw [← hB2] at hou hru
        have Hou := Lib.hid hou
        have Hru := Lib.hid hru
        have HK := Lib.hid hK
        have HL := Lib.hid hul
        have hK64 : K ≤ 64 := by omega
        have Hb2 := Lib.hid (Hb.out.trans (hbu.mono hsz))
        have Ho2 := Lib.hid (Ho.out.below hbu (Nat.le_refl _))
        have Hr2 := Lib.hid (Hr.out.below hbu (Nat.le_refl _))
        have hz2 := hbu.size
        have Hlt := Lib.hid Ho.out.lt
        clear hou hru hbu hK hul Ho Hr hpl
        go_wp2_with fail
        go_loopw [7, 10] (fun v k wq => ∃ (m : Nat) (ws : List Value), k = .int .i64 m ∧ m ≤ K ∧ w2.heap.size ≤ wq.heap.size ∧ Mid B2 w2.heap.size w2 wq ∧ (∀ g, v.ownBlock = some g → g < B2 ∨ w2.heap.size ≤ g) ∧ Below w.heap.size w wq ∧ OwV 39 wq w.heap.size v ws ∧ RdP wq w.heap.size v.ownBlock ws (partsTo n f c i ++ ((parts n (i + 1) c).take m).map fun l => (i : Int) :: l)) (fun _ k _ => K - (intOf k).toNat)
        case atStart => exact ⟨0, vs, rfl, by omega, Nat.le_refl _, fun _ _ _ => rfl, fun g hg => .inl (by rw [hB2]; exact (Hlt.out g hg).2), Hb2.out, Ho2.out, by rw [List.take_zero, List.map_nil, List.append_nil]; exact Hr2.out⟩
        case round =>
          obtain ⟨m, ws, rfl, hm, hzq, hmid, hfar, hbw, hoq, hrq⟩ := hrel
          obtain ⟨Aw, cw, hvw, _⟩ := hoq.form
          obtain ⟨q, hq⟩ : ∃ q, ws.length = q := ⟨_, rfl⟩
          rw [hq] at hvw
          subst hvw
          have hq1 := hrq.1
          rw [hq, List.length_append, List.length_map, List.length_take] at hq1
          have hq128 : q ≤ 128 := by omega
          have Hq := Lib.hid hq
          have Hmid := Lib.hid hmid
          have Hfar := Lib.hid hfar
          have Hbw := Lib.hid hbw
          have Hoq := Lib.hid hoq
          have Hrq := Lib.hid hrq
          have hzw := hbw.size
          clear hq1 hq hmid hfar hbw hoq hrq
          by_cases hmK : m < K
          · have hmz : (m : Int) < (K : Int) := by omega
            have hmL : m < (parts n (i + 1) c).length := by have := HL.out; omega
            obtain ⟨hrow, _⟩ := ((Hru.out.keep Hmid.out (Nat.le_refl _)).2 m hmL)
            have Htk : Hid (_ = _) := take_map (parts n (i + 1) c) i hmL
            obtain ⟨row, hro⟩ : ∃ row, row = (parts n (i + 1) c).getD m [] := ⟨_, rfl⟩
            rw [← hro] at hrow Htk
            obtain ⟨Am, cm, hvm, _⟩ := hrow.form
            obtain ⟨lm, hlm⟩ : ∃ lm, row.length = lm := ⟨_, rfl⟩
            rw [hlm] at hvm
            rw [hvm] at hrow
            obtain ⟨bu, offu, rfl, hbb, _⟩ := RdV.at_ (OwV.rdA' Hou.out) (k := m) (by rw [HK.out]; exact hmK)
            have x1 := RdV.at0' (OwV.rdA' ((Hou.out.keep fun g hg => Hmid.out g (Hou.out.lt g hg).1 (Hou.out.lt g hg).2).alloc (.cells #[I i] 2))) (k := m) (by rw [HK.out]; exact hmK)
            rw [hvm] at x1
            have Hrw := Lib.hid hrow
            have Hlm := Lib.hid hlm
            have hlm2 : lm < 8 := by have := parts_row hn (show i + 1 < 8 by omega) (show c < 8 by omega) hmL; rw [← hro, hlm] at this; omega
            clear hrow hvm hlm hro
            go_wp2_with (at_builtin; first | (refine wpList_catI rfl (.tmp 36) (.tmp 40) rfl wr.heap.size (.slice (some ⟨wr.heap.size, 0, none⟩) 1 1) [(i : Int)] row rfl (OwI.one2 wr i (Nat.le_refl _)) Am lm cm rfl Hrw.out.hA (Hrw.out.alloc _).rdB Hlm.out (by simp; omega) (by simp) ?_; intro v5 w5 ho5 hgr5; obtain ⟨A5, c5, hv5, _⟩ := ho5.form; obtain ⟨q5, hq5⟩ : ∃ q5, ([(i : Int)] ++ row).length = q5 := ⟨_, rfl⟩; rw [hq5] at hv5; subst hv5; have H5 := Lib.hid ho5; have Hb5 := Lib.hid (((Below.refl wr.heap.size wr).alloc (Nat.le_refl _) (.cells #[I i] 2)).grown hgr5 (by simp) (fun k hk => by have hkk : wr.heap.size = k := Option.some.inj hk; omega)); have hs5 := hgr5.size; simp only [World.size_alloc] at hs5; clear ho5 hgr5 hq5) | (refine wpList_pushV rfl (.tmp 34) (.tmp 42) rfl w.heap.size (.slice Aw q cw) ws rfl ((Hoq.out.below Hb5.out (Nat.le_refl _)).alloc _) q Hq.out w5.heap.size 1 (.slice A5 q5 c5) rfl rfl ((Blk.new _ _ _).cell 0) (by omega) (by simp; omega) (w5.heap.size + 1) (by simp) ?_; intro g' cap w6 ho6 hgr6 hg6 hlt6; have Ho6 := Lib.hid ho6; have Hgr6 := Lib.hid hgr6; have Hg6 := Lib.hid hg6; clear ho6 hgr6 hg6))
            have Hb5a : Hid (Below wr.heap.size wr (w5.alloc (.cells #[.slice A5 q5 c5] 39))) := Hb5.out.alloc (by omega) _
            have hz6 := Hgr6.out.size
            simp only [World.size_alloc] at hz6
            have Hb6 := Lib.hid (((Hoq.out.below Hb5.out (Nat.le_refl _)).alloc (.cells #[.slice A5 q5 c5] 39)).bel (Hbw.out.trans (Hb5a.out.mono hzw)) Hgr6.out (Nat.le_refl _) (by simp; omega))
            have Hr6 : Hid (RdP w6 w.heap.size (some g') (ws ++ [.slice A5 q5 c5]) (partsTo n f c i ++ ((parts n (i + 1) c).take (m + 1)).map fun l => (i : Int) :: l)) := by
              show RdP _ _ _ _ _
              rw [Htk.out, ← List.append_assoc]
              refine RdP.push (Hrq.out.below Hb5a.out (Nat.le_refl _)) ((H5.out.alloc _).mono hzw) (fun g hg e => ?_) Hgr6.out (by rcases Hg6.out with h | h; exact .inl h; right; simp; omega)
              have h1 := (Hoq.out.lt g e).2
              have h2 := (H5.out.lt g hg).1
              omega
            have Hmid6 : Hid (Mid B2 w2.heap.size w2 w6) := fun b h1 h2 => by
              rw [← Hmid.out b h1 h2, ← Hb5a.out.block b (by omega)]
              refine Hgr6.out.block b (by simp; omega) (fun e => ?_)
              rcases Hfar.out b e.symm with h | h <;> omega
            have Hfar6 : Hid (∀ g, some g' = some g → g < B2 ∨ w2.heap.size ≤ g) := fun g e => by
              injection e with e
              subst e
              rcases Hg6.out with h | h
              · exact Hfar.out g' h
              · right; omega
            go_roundw
            case rel => exact ⟨m + 1, _, by go_num, by omega, by omega, Hmid6.out, Hfar6.out, Hb6.out, Ho6.out, Hr6.out⟩
            case measure => simp [intOf]; omega
          · obtain rfl : m = K := by omega
            have hmz : ¬ ((m : Int) < (m : Int)) := by omega
            have Hr6 : Hid (RdP wr w.heap.size (Value.slice Aw q cw).ownBlock ws (partsTo n f c (i + 1))) := by
              show RdP _ _ _ _ _
              have h := Hrq.out
              rw [HL.out, List.take_length] at h
              rw [partsTo_step hfi]
              exact h
            go_wp2_with fail
            go_roundw
            case rel => exact ⟨i + 1, by omega, by omega, by omega, Hbw.out, _, Hoq.out, Hr6.out⟩
            case measure => simp [intOf]; omega
      · obtain rfl : i = n := by omega
        have hiz : ¬ ((i : Int) < (i : Int)) := by omega
        go_wp2_with fail
        go_ret
        exact ⟨_, _, rfl, Ho.out, by rw [partsTo_all]; exact Hr.out, Hb.out⟩
end Go.Proofs.YtchjegojcpbfpaaGreat

namespace Go.Proofs.YtchjegojcpbfpaaGreat
open Go.RowKit
set_option maxRecDepth 100000
set_option linter.unusedSimpArgs false
set_option linter.unusedVariables false
abbrev TB : TypeId := 4
def Bls (w : World) (g n : Nat) (Q : Nat → Bool) : Prop := ∃ cur : Array Value, Blk w g TB cur ∧ cur.size = n ∧ ∀ i, i < n → cur[i]? = some (.bool (Q i))
section
variable {w w' : World} {g n : Nat} {Q Q' : Nat → Bool}
theorem Bls.lt (h : Bls w g n Q) : g < w.heap.size := by obtain ⟨_, h, _⟩ := h; exact h.lt
theorem Bls.below {B : Nat} (h : Bls w g n Q) (hb : Below B w w') (hg : g < B) : Bls w' g n Q := by obtain ⟨c, h, h1⟩ := h; exact ⟨c, h.below hb hg, h1⟩
theorem Bls.grown {row : Option Nat} (h : Bls w g n Q) (hb : w.grownBy w' row) (hg : some g ≠ row) : Bls w' g n Q := by obtain ⟨c, h, h1⟩ := h; exact ⟨c, h.grown hb hg, h1⟩
theorem Bls.cell (h : Bls w g n Q) {i : Nat} (hi : i < n) : w.cell? ⟨g, i, none⟩ = some (.bool (Q i)) := by obtain ⟨c, h, _, h1⟩ := h; rw [h.cell]; exact h1 i hi
theorem Bls.frozen (h : Bls w g n Q) (i : Nat) : w.frozen? ⟨g, i, none⟩ = false := by obtain ⟨c, h, _⟩ := h; exact h.frozen i
theorem Bls.congr (h : Bls w g n Q) (e : ∀ i, i < n → Q i = Q' i) : Bls w g n Q' := by
  obtain ⟨c, h, h1, h2⟩ := h
  exact ⟨c, h, h1, fun i hi => by rw [← e i hi]; exact h2 i hi⟩
theorem Bls.set (h : Bls w g n Q) {i : Nat} (hi : i < n) : Bls (w.setCell ⟨g, i, none⟩ (.bool true)) g n fun a => Q a || decide (a = i) := by
  obtain ⟨c, h, h1, h2⟩ := h
  refine ⟨_, h.set_ _ _, by simpa using h1, fun a ha => ?_⟩
  rw [Array.getElem?_setIfInBounds]
  by_cases e : i = a
  · rw [if_pos e, if_pos (by omega)]
    simp [e]
  · rw [if_neg e]
    rw [h2 a ha]
    have : ¬ a = i := fun h => e h.symm
    simp [this]
end
/-! ### the search -/
def addQ (L : List Nat) (x : Nat) : List Nat := if x ∈ L then L else L ++ [x]
theorem addQ_of {L : List Nat} {x y : Nat} (h : y ∈ L) : y ∈ addQ L x := by unfold addQ; split <;> simp [*]
theorem addQ_in {L : List Nat} {x y : Nat} (h : y ∈ addQ L x) : y ∈ L ∨ y = x := by unfold addQ at h; split at h <;> simp_all
theorem addQ_get {L : List Nat} {x j : Nat} (h : j < L.length) : (addQ L x)[j]? = L[j]? := by unfold addQ; split <;> simp [List.getElem?_append, h]
theorem addQ_nd {L : List Nat} {x : Nat} (h : L.Nodup) : (addQ L x).Nodup := by
  unfold addQ; split
  · exact h
  · rw [List.nodup_append]; exact ⟨h, by simp, by simp; intro a ha e; subst e; contradiction⟩
structure Rch (E ms : List M) (l r : Bool) (i0 : Nat) (L : List Nat) (a q : Nat) : Prop where
  nd : L.Nodup
  ok : ∀ x ∈ L, x < E.length ∧ Rel E l r (gm E i0) (gm E x)
  i0 : i0 ∈ L
  cl : ∀ j x, L[j]? = some x → ∀ i, i < ms.length → (j < a ∨ j = a ∧ i < q) → (l = true → ix E (mul (gm ms i) (gm E x)) ∈ L) ∧ (r = true → ix E (mul (gm E x) (gm ms i)) ∈ L)
theorem Rch.len {E ms : List M} {l r : Bool} {i0 : Nat} {L : List Nat} {a q : Nat} (h : Rch E ms l r i0 L a q) : L.length ≤ E.length := by
  have := nodup_sub_len h.nd (b := List.range E.length) fun x hx => by simpa using (h.ok x hx).1
  simpa using this
set_option maxRecDepth 100000
set_option linter.unusedSimpArgs false
set_option linter.unusedVariables false
section
variable {E ms : List M} {n : Int} {l r : Bool} {i0 a q x : Nat} {L : List Nat}
theorem Rch.start (hm : Mnd n E) (hi : i0 < E.length) : Rch E ms l r i0 [i0] 0 0 :=
  ⟨by simp, fun x hx => by simp at hx; subst hx; exact ⟨hi, Rel.refl hm (gm_mem hi)⟩, by simp, fun j x _ i _ h => by omega⟩
theorem Rch.row (h : Rch E ms l r i0 L a ms.length) : Rch E ms l r i0 L (a + 1) 0 :=
  ⟨h.nd, h.ok, h.i0, fun j x hj i hi h2 => h.cl j x hj i hi (by omega)⟩
theorem Rch.add (h : Rch E ms l r i0 L a q) (ha : a < L.length) {y : Nat} (hy : y < E.length ∧ Rel E l r (gm E i0) (gm E y)) : Rch E ms l r i0 (addQ L y) a q :=
  ⟨addQ_nd h.nd, fun z hz => by
    rcases addQ_in hz with hz | rfl
    · exact h.ok z hz
    · exact hy, addQ_of h.i0, fun j z hj i hi h2 => by
    rw [addQ_get (by omega)] at hj
    obtain ⟨h3, h4⟩ := h.cl j z hj i hi h2
    exact ⟨fun e => addQ_of (h3 e), fun e => addQ_of (h4 e)⟩⟩
theorem Rch.next (h : Rch E ms l r i0 L a q) (hx : L[a]? = some x) (hL : l = true → ix E (mul (gm ms q) (gm E x)) ∈ L) (hR : r = true → ix E (mul (gm E x) (gm ms q)) ∈ L) : Rch E ms l r i0 L a (q + 1) :=
  ⟨h.nd, h.ok, h.i0, fun j z hj i hi h2 => by
    by_cases e : j = a ∧ i = q
    · obtain ⟨rfl, rfl⟩ := e
      rw [hx] at hj
      injection hj with hj
      subst hj
      exact ⟨hL, hR⟩
    · exact h.cl j z hj i hi (by omega)⟩
theorem Rch.left (h : Rch E ms l r i0 L a q) (hm : Mnd n E) (hG : ∀ i, i < ms.length → gm ms i ∈ E) (hi0 : i0 < E.length) (hx : L[a]? = some x) (hq : q < ms.length) (hl : l = true) : ix E (mul (gm ms q) (gm E x)) < E.length ∧ Rel E l r (gm E i0) (gm E (ix E (mul (gm ms q) (gm E x)))) := by
  have hok := h.ok x (List.mem_of_getElem? hx)
  have hmem := hm.mulE _ (hG q hq) _ (gm_mem hok.1)
  refine ⟨ix_lt hmem, ?_⟩
  rw [gm_ix hmem]
  exact Rel.left hm (gm_mem hi0) (hG q hq) hl hok.2
theorem Rch.right (h : Rch E ms l r i0 L a q) (hm : Mnd n E) (hG : ∀ i, i < ms.length → gm ms i ∈ E) (hi0 : i0 < E.length) (hx : L[a]? = some x) (hq : q < ms.length) (hr : r = true) : ix E (mul (gm E x) (gm ms q)) < E.length ∧ Rel E l r (gm E i0) (gm E (ix E (mul (gm E x) (gm ms q)))) := by
  have hok := h.ok x (List.mem_of_getElem? hx)
  have hmem := hm.mulE _ (gm_mem hok.1) _ (hG q hq)
  refine ⟨ix_lt hmem, ?_⟩
  rw [gm_ix hmem]
  exact Rel.right hm (gm_mem hi0) (hG q hq) hr hok.2
theorem Rch.fin (h : Rch E ms l r i0 L L.length 0) (hm : Mnd n E) (hE : ∀ x, x ∈ E ↔ Mon ms n x) (hG : Pts n ms) (hi0 : i0 < E.length) {y : Nat} (hy : y < E.length) : decide (y ∈ L) = decide (Rel E l r (gm E i0) (gm E y)) := by
  rw [Bool.eq_iff_iff, decide_eq_true_eq, decide_eq_true_eq]
  constructor
  · exact fun hy => (h.ok y hy).2
  · intro hR
    have hGE : ∀ g ∈ ms, g ∈ E := fun g hg => (hE g).2 (Mon.gen hG hg)
    have key : ∀ f ∈ L.map (gm E), ∀ g ∈ ms, (l = true → mul g f ∈ L.map (gm E)) ∧ (r = true → mul f g ∈ L.map (gm E)) := by
      intro f hf g hg
      obtain ⟨x, hx, rfl⟩ := List.mem_map.1 hf
      obtain ⟨j, hj, e⟩ := List.getElem_of_mem hx
      obtain ⟨i, hi, e2⟩ := mem_gm hg
      have hok := h.ok x hx
      have h2 := h.cl j x (by rw [List.getElem?_eq_getElem hj, e]) i hi (.inl hj)
      rw [e2] at h2
      have m1 := hm.mulE _ (hGE g hg) _ (gm_mem hok.1)
      have m2 := hm.mulE _ (gm_mem hok.1) _ (hGE g hg)
      exact ⟨fun hl => List.mem_map.2 ⟨_, h2.1 hl, gm_ix m1⟩, fun hr => List.mem_map.2 ⟨_, h2.2 hr, gm_ix m2⟩⟩
    have h3 : gm E y ∈ L.map (gm E) := reach_all hm hE hG (fun f hf => by obtain ⟨x, hx, rfl⟩ := List.mem_map.1 hf; exact gm_mem (h.ok x hx).1) (List.mem_map_of_mem h.i0)
      (fun hl f hf g hg => (key f hf g hg).1 hl) (fun hr f hf g hg => (key f hf g hg).2 hr) hR
    obtain ⟨z, hz, e⟩ := List.mem_map.1 h3
    rw [← gm_inj hm.asc.nodup (h.ok z hz).1 hy e]
    exact hz
end
def qI (L : List Nat) : List Int := L.map fun (x : Nat) => (x : Int)
theorem qI_snoc (L : List Nat) (x : Nat) : qI (L ++ [x]) = qI L ++ [(x : Int)] := by simp [qI]
set_option maxRecDepth 100000
set_option linter.unusedSimpArgs false
set_option linter.unusedVariables false
abbrev TN : TypeId := 3
structure RS (w0 w : World) (N gM gq kq cq : Nat) (L : List Nat) : Prop where
  bel : Below w0.heap.size w0 w
  q : OwI TN w w0.heap.size (.slice (some ⟨gq, 0, none⟩) kq cq) (qI L)
  kq : L.length = kq
  m : Bls w gM N fun y => decide (y ∈ L)
  ne : gq ≠ gM
  gm : w0.heap.size ≤ gM
section
variable {w0 w w' : World} {N gM gq kq cq : Nat} {L : List Nat}
theorem RS.below (h : RS w0 w N gM gq kq cq L) (hb : Below w.heap.size w w') : RS w0 w' N gM gq kq cq L :=
  ⟨h.bel.trans (hb.mono h.bel.size), h.q.below hb (Nat.le_refl _), h.kq, h.m.below hb h.m.lt, h.ne, h.gm⟩
theorem RS.q4 (h : RS w0 w N gM gq kq cq L) (x : Nat) (o : Obj) : OwI TN ((w.setCell ⟨gM, x, none⟩ (.bool true)).alloc o) w0.heap.size (.slice (some ⟨gq, 0, none⟩) kq cq) (qI L) :=
  (h.q.keep (fun g hg => by injection hg with hg; exact Below.heap_setCell _ _ _ g (by rw [← hg]; exact h.ne))).alloc o
theorem RS.push (h : RS w0 w N gM gq kq cq L) {x : Nat} (hx : x < N) (hnx : x ∉ L) {w4 w5 w6 : World} {o : Obj} (h4 : w4 = w.setCell ⟨gM, x, none⟩ (.bool true)) (h5 : w5 = w4.alloc o) {g' cap : Nat} (ho : OwI TN w6 w0.heap.size (.slice (some ⟨g', 0, none⟩) (kq + 1) cap) (qI L ++ [(x : Int)]))
    (hgr : w5.grownBy w6 (some gq)) (hg : some gq = some g' ∨ g' = w5.heap.size) : RS w0 w6 N gM g' (kq + 1) cap (addQ L x) := by
  have ha : addQ L x = L ++ [x] := by unfold addQ; rw [if_neg hnx]
  have hm4 : Bls w4 gM N fun y => decide (y ∈ L) || decide (y = x) := by rw [h4]; exact h.m.set hx
  have hm5 := hm4.grown (w' := w5) (row := none) (by rw [h5]; exact World.grownBy_alloc w4 o none) (by simp)
  have hm6 := hm5.grown hgr (by simpa using Ne.symm h.ne)
  have hs4 : w4.heap.size = w.heap.size := by rw [h4]; simp [World.setCell]
  have hs5 : w5.heap.size = w.heap.size + 1 := by rw [h5]; simp [hs4]
  have hgq := (h.q.lt gq rfl).1
  have hb4 : Below w0.heap.size w0 w4 := by rw [h4]; exact h.bel.setCell (p := ⟨gM, x, none⟩) h.gm _
  have hb5 : Below w0.heap.size w0 w5 := by rw [h5]; exact hb4.alloc (by have := h.bel.size; omega) o
  have hml := h.m.lt
  refine ⟨hb5.grown hgr (by have := h.bel.size; omega) (fun k hk => by injection hk with hk; omega), by rw [ha, qI_snoc]; exact ho, by rw [ha, List.length_append, h.kq]; rfl, hm6.congr fun y _ => ?_, ?_, h.gm⟩
  · rw [ha, Bool.eq_iff_iff]; simp
  · rcases hg with e | e
    · injection e with e; rw [← e]; exact h.ne
    · omega
theorem RS.box (h : RS w0 w N gM gq kq cq L) {x : Nat} {w4 w5 w6 : World} {o : Obj} (h4 : w4 = w.setCell ⟨gM, x, none⟩ (.bool true)) (h5 : w5 = w4.alloc o) {g' hb : Nat} {f : M} (hB : Blk w hb 31 (mc f)) (hbM : hb ≠ gM) (hbq : hb ≠ gq)
    (hgr : w5.grownBy w6 (some gq)) (hg : some gq = some g' ∨ g' = w5.heap.size) : Blk w6 hb 31 (mc f) ∧ hb ≠ g' := by
  have hl := hB.lt
  have hs4 : w4.heap.size = w.heap.size := by rw [h4]; simp [World.setCell]
  have hs5 : w5.heap.size = w.heap.size + 1 := by rw [h5]; simp [hs4]
  have b4 : Blk w4 hb 31 (mc f) := by rw [h4]; exact hB.far (p := ⟨gM, x, none⟩) hbM _
  have b5 : Blk w5 hb 31 (mc f) := by rw [h5]; exact b4.alloc o
  refine ⟨b5.grown hgr (by simpa using hbq), ?_⟩
  rcases hg with e | e
  · injection e with e; rw [← e]; exact hbq
  · omega
end
set_option maxRecDepth 100000
set_option linter.unusedSimpArgs false
set_option linter.unusedVariables false
end Go.Proofs.YtchjegojcpbfpaaGreat

namespace Go.Proofs.YtchjegojcpbfpaaGreat
open Go.RowKit
set_option maxRecDepth 100000
set_option linter.unusedSimpArgs false
set_option linter.unusedVariables false
theorem monC_el {ms xs : List M} (h : monC ms xs = 0) : ∃ E ps, El ms xs E ps ∧ ∀ f ∈ xs, f ∈ E := by
  have hc : elC ms xs = 0 := by
    by_cases hc : elC ms xs = 0
    · exact hc
    · rw [elC_mon hc] at h; exact h
  obtain ⟨E, ps, hE⟩ := elC_el hc
  refine ⟨E, ps, hE, fun f hf => ?_⟩
  by_cases hin : f ∈ E
  · exact hin
  · have := monC_out hE.code hE.clo hf (by rw [← hE.eq]; exact hin)
    rw [this] at h; cases h
set_option maxRecDepth 100000
set_option linter.unusedSimpArgs false
set_option linter.unusedVariables false
set_option maxRecDepth 100000
set_option linter.unusedSimpArgs false
set_option linter.unusedVariables false
set_option maxRecDepth 100000
set_option linter.unusedSimpArgs false
set_option linter.unusedVariables false
section
variable {same : Nat → Nat → Bool}
end
set_option maxRecDepth 100000
set_option linter.unusedSimpArgs false
set_option linter.unusedVariables false
end Go.Proofs.YtchjegojcpbfpaaGreat

namespace Go.Proofs.YtchjegojcpbfpaaGreat
open Go.RowKit
set_option maxRecDepth 100000
set_option linter.unusedSimpArgs false
set_option linter.unusedVariables false
def selM (ms : List M) (S : List Int) : List M := S.map fun z => gm ms z.toNat
def lgG (ms : List M) (p : Int) (N : Nat) (S : List Int) : Bool := match clo (selM ms S) p with | none => false | some ps => decide (ps.length = N)
theorem selM_length (ms : List M) (S : List Int) : (selM ms S).length = S.length := by simp [selM]
theorem selM_take (ms : List M) (S : List Int) {k : Nat} (h : k < S.length) : selM ms (S.take (k + 1)) = selM ms (S.take k) ++ [gm ms (gi S k).toNat] := by
  unfold selM
  rw [List.take_add_one, List.map_append, List.getElem?_eq_getElem h]
  simp [gi, List.getD, h]
theorem selM_sub {ms : List M} {S : List Int} (h : ∀ z ∈ S, 0 ≤ z ∧ z < ms.length) : ∀ g ∈ selM ms S, g ∈ ms := fun g hg => by
  obtain ⟨z, hz, rfl⟩ := List.mem_map.1 hg
  have := h z hz
  exact gm_mem (by omega)
theorem selM_full (ms : List M) : selM ms (fullL ms.length) = ms := by
  unfold selM fullL
  rw [List.map_map]
  conv => rhs; rw [← range_gm ms]
  rfl
theorem lgG_full {ms E : List M} {ps : Met} {xs : List M} (hE : El ms xs E ps) : lgG ms (gm ms 0).p E.length (fullL ms.length) = true := by
  unfold lgG
  rw [selM_full, hE.clo, hE.eq]
  simp only
  have := sortM_length (clo_good hE.clo).1.nd
  rw [List.length_map] at this
  unfold eltM
  rw [this]
  exact decide_eq_true rfl
theorem bitsL_ok : ∀ n : Fin 7, ∀ u : Fin 64, u.val < 2 ^ n.val → ((bitsL u.val).all fun z => decide (0 ≤ z) && decide (z < n.val)) = true := by decide +kernel
theorem bitsL_lt {n u : Nat} (hn : n < 7) (hu : u < 2 ^ n) : ∀ z ∈ bitsL u, 0 ≤ z ∧ z < n := fun z hz => by
  have h64 : 2 ^ n ≤ 64 := by
    have : 2 ^ n ≤ 2 ^ 6 := Nat.pow_le_pow_right (by decide) (by omega)
    simpa using this
  have h := List.all_eq_true.1 (bitsL_ok ⟨n, hn⟩ ⟨u, by omega⟩ hu) z hz
  simp only [Bool.and_eq_true, decide_eq_true_eq] at h
  exact h
theorem parts_ok : ∀ n : Fin 7, ∀ c : Fin 8, ((parts n.val 0 c.val).all fun S => S.all fun z => decide (0 ≤ z) && decide (z < n.val)) = true := by decide +kernel
theorem parts_lt {n c j : Nat} (hn : n < 7) (hc : c < 8) (hj : j < (parts n 0 c).length) : ∀ z ∈ (parts n 0 c).getD j [], 0 ≤ z ∧ z < n := fun z hz => by
  have h := List.all_eq_true.1 (parts_ok ⟨n, hn⟩ ⟨c, hc⟩) ((parts n 0 c)[j]) (List.getElem_mem hj)
  rw [List.getD_eq_getElem?_getD, List.getElem?_eq_getElem hj] at hz
  have h := List.all_eq_true.1 h z hz
  simp only [Bool.and_eq_true, decide_eq_true_eq] at h
  exact h
def bestTo (G : List Int → Bool) (n u : Nat) : List Int := ((List.range u).map bitsL).foldl (bestStep G) (fullL n)
theorem bestTo_step (G : List Int → Bool) (n u : Nat) : bestTo G n (u + 1) = bestStep G (bestTo G n u) (bitsL u) := by
  unfold bestTo
  rw [List.range_succ, List.map_append, List.foldl_append]
  rfl
theorem bestTo_all (G : List Int → Bool) (n : Nat) : bestTo G n (2 ^ n) = leastI G n := rfl
theorem bitsL_len (u : Nat) : (bitsL u).length ≤ 6 := bitsTo_len u 6
theorem bestTo_len (G : List Int → Bool) (n : Nat) : ∀ u, (bestTo G n u).length ≤ n + 6
  | 0 => by show (fullL n).length ≤ n + 6; unfold fullL; rw [List.length_map, List.length_range]; omega
  | u + 1 => by
    rw [bestTo_step]
    unfold bestStep
    have := bitsL_len u
    split
    · omega
    · exact bestTo_len G n u
theorem best_skip {G : List Int → Bool} {b S : List Int} (h : lessS S b = false) : bestStep G b S = b := by unfold bestStep; rw [h]; rfl
theorem best_no {G : List Int → Bool} {b S : List Int} (h : G S = false) : bestStep G b S = b := by unfold bestStep; rw [h, Bool.and_false]; rfl
theorem best_yes {G : List Int → Bool} {b S : List Int} (h : lessS S b = true) (hG : G S = true) : bestStep G b S = S := by unfold bestStep; rw [h, hG]; rfl
theorem less_gt {S b : List Int} (h : b.length < S.length) : lessS S b = false := by
  unfold lessS
  rw [decide_eq_false (by omega), decide_eq_false (by omega)]; rfl
theorem less_lt {S b : List Int} (h : S.length < b.length) : lessS S b = true := by
  unfold lessS
  rw [decide_eq_true h]; rfl
theorem less_eq {S b : List Int} (h : S.length = b.length) : lessS S b = decide (cmpLs S b < 0) := by
  unfold lessS
  rw [decide_eq_false (by omega), decide_eq_true h, Bool.false_or, Bool.true_and, Bool.eq_iff_iff, decide_eq_true_eq, cmpLs_neg]
def partsBelow (n c : Nat) : List (List Int) := (List.range c).flatMap fun c => parts n 0 c
theorem below_step (n c : Nat) : partsBelow n (c + 1) = partsBelow n c ++ parts n 0 c := by
  unfold partsBelow
  rw [List.range_succ, List.flatMap_append]
  simp
theorem below_none {G : List Int → Bool} {n c : Nat} (h1 : ∀ S ∈ partsBelow n c, G S = false) (h2 : ∀ j, j < (parts n 0 c).length → G ((parts n 0 c).getD j []) = false) : ∀ S ∈ partsBelow n (c + 1), G S = false := fun S hS => by
  rw [below_step] at hS
  rcases List.mem_append.1 hS with h | h
  · exact h1 S h
  · obtain ⟨j, hj, rfl⟩ := List.getElem_of_mem h
    have := h2 j hj
    rw [List.getD_eq_getElem?_getD, List.getElem?_eq_getElem hj] at this
    exact this
theorem find_at {α : Type} {G : α → Bool} : ∀ {L : List α} {i : Nat} (hi : i < L.length), (∀ j (h : j < i), G (L[j]'(by omega)) = false) → G L[i] = true → L.find? G = some L[i]
  | a :: L, 0, _, _, h => by
    rw [List.find?_cons]
    simp only [List.getElem_cons_zero] at h ⊢
    rw [h]
  | a :: L, i + 1, hi, h1, h => by
    rw [List.find?_cons]
    have h0 := h1 0 (by omega)
    simp only [List.getElem_cons_zero] at h0
    rw [h0]
    simp only [List.getElem_cons_succ] at h ⊢
    exact find_at (by simpa using hi) (fun j hj => by have := h1 (j + 1) (by omega); simpa using this) h
theorem least_found {G : List Int → Bool} {n c i : Nat} (hc : c < n) (h1 : ∀ S ∈ partsBelow n c, G S = false) (hi : i < (parts n 0 c).length) (h2 : ∀ j, j < i → G ((parts n 0 c).getD j []) = false) (hG : G ((parts n 0 c).getD i []) = true) : leastS G n = (parts n 0 c).getD i [] := by
  have hsplit : partsAll n = partsBelow n c ++ (parts n 0 c ++ (List.range' (c + 1) (n - c - 1)).flatMap fun c => parts n 0 c) := by
    unfold partsAll partsBelow
    have : List.range n = List.range c ++ c :: List.range' (c + 1) (n - c - 1) := by
      rw [List.range_eq_range', List.range_eq_range', ← List.range'_succ, show n - c - 1 + 1 = n - c by omega]
      have h := List.range'_append_1 (s := 0) (m := c) (n := n - c)
      rw [Nat.zero_add, show c + (n - c) = n by omega] at h
      exact h.symm
    rw [this, List.flatMap_append, List.flatMap_cons]
  unfold leastS
  rw [hsplit, List.find?_append, List.find?_eq_none.2 (fun S hS => by rw [h1 S hS]; decide), Option.none_or, List.find?_append]
  have hget : ∀ j (h : j < (parts n 0 c).length), (parts n 0 c).getD j [] = (parts n 0 c)[j] := fun j h => by rw [List.getD_eq_getElem?_getD, List.getElem?_eq_getElem h]; rfl
  rw [hget i hi] at hG ⊢
  rw [find_at hi (fun j hj => by have := h2 j hj; rw [hget j (by omega)] at this; exact this) hG]
  rfl
theorem least_none {G : List Int → Bool} {n : Nat} (h1 : ∀ S ∈ partsBelow n n, G S = false) : leastS G n = fullL n := by
  unfold leastS
  have : (partsAll n).find? G = none := List.find?_eq_none.2 fun S hS => by
    rw [h1 S hS]; decide
  rw [this]
  rfl
def lgR (ms : List M) : List Int := if monC ms [] = 0 then leastI (lgG ms (gm ms 0).p (elR ms []).length) ms.length else []
theorem lgR_bad {ms : List M} (h : monC ms [] ≠ 0) : lgR ms = [] := if_neg h
theorem lgR_len (ms : List M) : (lgR ms).length ≤ 12 := by
  unfold lgR
  split
  · rename_i h
    rw [← bestTo_all]
    have := bestTo_len (lgG ms (gm ms 0).p (elR ms []).length) ms.length (2 ^ ms.length)
    obtain ⟨E, ps, hE, _⟩ := monC_el h
    have := hE.n6
    omega
  · simp
end Go.Proofs.YtchjegojcpbfpaaGreat

namespace Go.Proofs.YtchjegojcpbfpaaGreat
open Go.RowKit
set_option maxRecDepth 100000
theorem thatR_bad {p : List M → Nat → Bool} {ms : List M} (h : elC ms [] ≠ 0) : thatR p ms = [] := by
  unfold thatR; rw [elR_bad h]; rfl
theorem thatE_mem {p : Nat → Bool} {E : List M} {a : M} : a ∈ thatE p E ↔ ∃ i, i < E.length ∧ p i = true ∧ gm E i = a := by
  unfold thatE
  rw [List.mem_map]
  constructor
  · rintro ⟨i, hi, rfl⟩
    have := List.mem_filter.1 hi
    exact ⟨i, List.mem_range.1 this.1, this.2, rfl⟩
  · rintro ⟨i, hi, h2, rfl⟩
    exact ⟨i, List.mem_filter.2 ⟨List.mem_range.2 hi, h2⟩, rfl⟩
theorem thatR_el {p : List M → Nat → Bool} {ms E : List M} {ps : Met} (hE : El ms [] E ps) : thatR p ms = thatE (p E) E := by
  unfold thatR; rw [hE.r]
theorem rk_one : ∀ n : Fin 5, rk (one (n.val + 1 : Nat)) = n.val + 1 := by decide +kernel
theorem rk_one' {n : Int} (h1 : 1 ≤ n) (h5 : n ≤ 5) : (rk (one n) : Int) = n := by
  have h := rk_one ⟨(n - 1).toNat, by omega⟩
  have e : (((n - 1).toNat + 1 : Nat) : Int) = n := by omega
  simp only at h
  rw [e] at h
  rw [h]; exact e
theorem units_ok {ms : List M} (h : elC ms [] = 0) : (∀ f ∈ thatR unitB ms, Valid f ∧ (rk f : Int) = (gm ms 0).p) ∧ 0 < (thatR unitB ms).length := by
  obtain ⟨E, ps, hE⟩ := elC_el h
  rw [thatR_el hE]
  refine ⟨fun f hf => ?_, ?_⟩
  · obtain ⟨i, hi, h1, rfl⟩ := thatE_mem.1 hf
    have hv := hE.mnd.ok _ (gm_mem hi)
    unfold unitB isUnit at h1
    rw [decide_eq_true_eq] at h1
    exact ⟨hv.1, by rw [h1, hv.2]⟩
  · have h1 := hE.mnd.oneE
    refine List.length_pos_of_mem (thatE_mem.2 ⟨ix E (one (gm ms 0).p), ix_lt h1, ?_, gm_ix h1⟩)
    unfold unitB isUnit
    rw [gm_ix h1, decide_eq_true_eq, rk_one' hE.p1 hE.p5, p_one]
theorem idems_pos {ms : List M} (h : elC ms [] = 0) : 0 < (thatR idemB ms).length := by
  obtain ⟨E, ps, hE⟩ := elC_el h
  rw [thatR_el hE]
  have h1 := hE.mnd.oneE
  refine List.length_pos_of_mem (thatE_mem.2 ⟨ix E (one (gm ms 0).p), ix_lt h1, ?_, gm_ix h1⟩)
  unfold idemB isIdem
  rw [gm_ix h1, decide_eq_true_eq]
  exact hE.mnd.mul1 h1
theorem pc_one {E : List M} {n : Int} (hm : Mnd n E) {k : Nat} (hk : k < E.length) : pc E (ix E (one n)) k = k ∧ pc E k (ix E (one n)) = k := by
  have h1 := hm.oneE
  unfold pc
  rw [gm_ix h1, hm.one1 (gm_mem hk), hm.mul1 (gm_mem hk)]
  exact ⟨ix_gm hm.asc.nodup hk, ix_gm hm.asc.nodup hk⟩
theorem centre_pos {ms : List M} (h : elC ms [] = 0) : 0 < (thatR centB ms).length := by
  obtain ⟨E, ps, hE⟩ := elC_el h
  rw [thatR_el hE]
  have h1 := hE.mnd.oneE
  refine List.length_pos_of_mem (thatE_mem.2 ⟨ix E (one (gm ms 0).p), ix_lt h1, ?_, gm_ix h1⟩)
  unfold centB
  rw [List.all_eq_true]
  intro k hk
  have := pc_one hE.mnd (List.mem_range.1 hk)
  rw [this.1, this.2]
  simp
theorem zero_ok {ms : List M} (h : zeroC ms = 0) : Valid (zeroR ms) ∧ (zeroR ms).p = (gm ms 0).p ∧ ∀ g ∈ ms, (Valid g ∧ g.p = (gm ms 0).p) ∧ mul (zeroR ms) g = zeroR ms ∧ mul g (zeroR ms) = zeroR ms := by
  have hc : elC ms [] = 0 := by
    refine Classical.byContradiction fun hne => ?_
    unfold zeroC at h
    rw [if_neg hne] at h
    exact hne h
  obtain ⟨E, ps, hE⟩ := elC_el hc
  have hne : thatR zeroB ms ≠ [] := by
    intro he
    unfold zeroC at h
    rw [if_pos hc, if_pos he] at h
    cases h
  have hz : zeroR ms ∈ thatR zeroB ms := by
    unfold zeroR
    cases hl : thatR zeroB ms with
    | nil => exact absurd hl hne
    | cons a l => simp
  rw [thatR_el hE] at hz
  obtain ⟨z, hzl, hz2, hz3⟩ := thatE_mem.1 hz
  have hv := hE.mnd.ok _ (gm_mem hzl)
  rw [hz3] at hv
  unfold zeroB sideB at hz2
  rw [Bool.and_eq_true, List.all_eq_true, List.all_eq_true] at hz2
  refine ⟨hv.1, hv.2, fun g hg => ?_⟩
  have hgE : g ∈ E := (hE.mem g).2 (Mon.gen hE.G hg)
  have h1 := hz2.1 _ (List.mem_range.2 (ix_lt hgE))
  have h2 := hz2.2 _ (List.mem_range.2 (ix_lt hgE))
  unfold sideP at h1 h2
  rw [if_pos rfl, beq_iff_eq] at h1
  rw [if_neg (by decide), beq_iff_eq] at h2
  have g1 := gm_pc hE.mnd (ix_lt hgE) hzl
  have g2 := gm_pc hE.mnd hzl (ix_lt hgE)
  rw [h1, gm_ix hgE, hz3] at g1
  rw [h2, gm_ix hgE, hz3] at g2
  exact ⟨hE.G g hg, g2.symm, g1.symm⟩
theorem com_centre {ms : List M} (h : elC ms [] = 0) : comR ms = decide ((thatR centB ms).length = (elR ms []).length) := by
  obtain ⟨E, ps, hE⟩ := elC_el h
  unfold comR
  rw [thatR_el hE, hE.r, h, Bool.eq_iff_iff, decide_eq_true_eq]
  unfold comB thatE
  rw [List.length_map]
  simp only [decide_true, Bool.true_and]
  constructor
  · intro h1
    rw [List.all_eq_true] at h1
    rw [List.filter_eq_self.2 h1, List.length_range]
  · intro h1
    rw [List.all_eq_true]
    refine List.filter_eq_self.1 (List.Sublist.eq_of_length List.filter_sublist ?_)
    rw [h1, List.length_range]
theorem bitsL_mem {s : Nat} {z : Int} (h : z ∈ bitsL s) : ∃ k : Nat, z = k ∧ s.testBit k = true := by
  unfold bitsL at h
  obtain ⟨k, hk, rfl⟩ := List.mem_map.1 h
  exact ⟨k, rfl, (List.mem_filter.1 hk).2⟩
theorem fullL_mem {n : Nat} {z : Int} (h : z ∈ fullL n) : ∃ k : Nat, z = k ∧ k < n := by
  unfold fullL at h
  obtain ⟨k, hk, rfl⟩ := List.mem_map.1 h
  exact ⟨k, rfl, List.mem_range.1 hk⟩
theorem least_ok {ms : List M} (h : monC ms [] = 0) : (∀ z ∈ lgR ms, 0 ≤ z ∧ z < ms.length) ∧ (lgR ms).length ≤ 6 ∧ elC ms [] = 0 ∧
    (0 < (lgR ms).length → elC (selM ms (lgR ms)) [] = 0 ∧ (elR (selM ms (lgR ms)) []).length = (elR ms []).length) := by
  obtain ⟨E, ps, hE, _⟩ := monC_el h
  have hc : elC ms [] = 0 := elC_some hE.code hE.clo
  have hR : lgR ms = leastI (lgG ms (gm ms 0).p E.length) ms.length := by unfold lgR; rw [if_pos h, hE.r]
  obtain ⟨h1, h2, _⟩ := fold_best (lgG ms (gm ms 0).p E.length) (lgG_full hE) ((List.range (2 ^ ms.length)).map bitsL)
  have hl : leastI (lgG ms (gm ms 0).p E.length) ms.length = ((List.range (2 ^ ms.length)).map bitsL).foldl (bestStep (lgG ms (gm ms 0).p E.length)) (fullL ms.length) := rfl
  rw [← hl, ← hR] at h1 h2
  have hrng : ∀ z ∈ lgR ms, 0 ≤ z ∧ z < ms.length := by
    intro z hz
    rcases h1 with h1 | h1
    · rw [h1] at hz
      obtain ⟨k, rfl, hk⟩ := fullL_mem hz
      omega
    · obtain ⟨s, hs, e⟩ := List.mem_map.1 h1
      rw [← e] at hz
      obtain ⟨k, rfl, hk⟩ := bitsL_mem hz
      have hs2 := List.mem_range.1 hs
      have : k < ms.length := by
        rcases Nat.lt_or_ge k ms.length with hlt | hge
        · exact hlt
        · have h3 : s < 2 ^ k := Nat.lt_of_lt_of_le hs2 (Nat.pow_le_pow_right (by omega) hge)
          rw [Nat.testBit_lt_two_pow h3] at hk; cases hk
      omega
  have hlen : (lgR ms).length ≤ 6 := by
    rcases h1 with h1 | h1
    · rw [h1]; have := hE.n6; unfold fullL; simpa using this
    · obtain ⟨s, hs, e⟩ := List.mem_map.1 h1
      rw [← e]; exact bitsL_len s
  refine ⟨hrng, hlen, hc, fun hpos => ?_⟩
  have hmem : ∀ f ∈ selM ms (lgR ms), f ∈ ms := by
    intro f hf
    unfold selM at hf
    obtain ⟨z, hz, rfl⟩ := List.mem_map.1 hf
    have := hrng z hz
    rw [gm_eq (by omega)]; exact List.getElem_mem _
  have hsl : (selM ms (lgR ms)).length = (lgR ms).length := selM_length _ _
  have h0 : gm (selM ms (lgR ms)) 0 ∈ selM ms (lgR ms) := by rw [gm_eq (by omega)]; exact List.getElem_mem _
  have hp : (gm (selM ms (lgR ms)) 0).p = (gm ms 0).p := (hE.G _ (hmem _ h0)).2
  have hcode : codeL (selM ms (lgR ms)) [] = 0 := by
    refine codeL_zero.2 ⟨?_, inR_true.2 (by omega), ?_⟩
    · rw [List.append_nil, List.all_eq_true]
      exact fun f hf => (isMap_iff f).2 (hE.G _ (hmem f hf)).1
    · rw [List.append_nil, List.all_eq_true]
      intro f hf
      unfold sameP
      rw [decide_eq_true_eq, hp]
      exact (hE.G _ (hmem f hf)).2
  unfold lgG at h2
  cases hq : clo (selM ms (lgR ms)) (gm ms 0).p with
  | none => rw [hq] at h2; cases h2
  | some qs =>
    rw [hq] at h2
    have h3 : qs.length = E.length := of_decide_eq_true h2
    have hq2 : clo (selM ms (lgR ms)) (gm (selM ms (lgR ms)) 0).p = some qs := by rw [hp]; exact hq
    refine ⟨elC_some hcode hq2, ?_⟩
    rw [elR_some hcode hq2, hE.r, ← h3]
    show (sortM (qs.map (·.1))).length = qs.length
    rw [sortM_length (clo_good hq2).1.nd, List.length_map]
end Go.Proofs.YtchjegojcpbfpaaGreat

namespace Go.Proofs.YtchjegojcpbfpaaGreat
open Go.RowKit
set_option maxRecDepth 100000
def RetQ (res : List Int) (N : Nat) (code : Int) (w : World) (e : Ending) (w' : World) : Prop := ∃ A c, e = .returned (.tuple #[.slice A N c, I code]) ∧ RdI w' w'.heap.size A res ∧ Below w.heap.size w w'
theorem RetSI.toQ {res : List Int} {code code' : Int} {N : Nat} {w w' : World} {e : Ending} (h : RetSI res code w e w') (hN : res.length = N) (hc : code = code') : RetQ res N code' w e w' := by
  obtain ⟨A, c, rfl, hr, hb⟩ := h
  exact ⟨A, c, by rw [hN, hc], hr, hb⟩
def RetR (res : List M) (N : Nat) (code : Int) (w : World) (e : Ending) (w' : World) : Prop := ∃ A c, e = .returned (.tuple #[.slice A N c, I code]) ∧ RdM w' w'.heap.size A res ∧ Below w.heap.size w w'
theorem RetS.toR {res : List M} {code code' : Int} {N : Nat} {w w' : World} {e : Ending} (h : RetS res code w e w') (hN : res.length = N) (hc : code = code') : RetR res N code' w e w' := by
  obtain ⟨A, c, rfl, hr, hb⟩ := h
  exact ⟨A, c, by rw [hN, hc], hr, hb⟩
theorem OwM.noneA {e : TypeId} {w : World} {B n c : Nat} {A : Option Addr} {ms : List M} (h : OwM e w B (.slice A n c) ms) : A = none → n = 0 ∧ c = 0 := by
  intro hA
  rcases h.2 with ⟨h1, _⟩ | ⟨g, cap, cur, h1, _⟩
  · injection h1 with _ h2 h3; exact ⟨h2, h3⟩
  · injection h1 with h1 _ _; rw [hA] at h1; cases h1
theorem OwM.read {e : TypeId} {w : World} {B n c : Nat} {A : Option Addr} {ms : List M} (h : OwM e w B (.slice A n c) ms) : RdM w w.heap.size A ms := by
  obtain ⟨A', c', h1, hr⟩ := h.form
  injection h1 with h1 _ _
  rw [h1]; exact hr
theorem RdM.on {w w' : World} {A : Option Addr} {ms : List M} (h : RdM w w.heap.size A ms) (hb : Below w.heap.size w w') : RdM w' w'.heap.size A ms := Rd.more (Rd.below h hb) hb.size
end Go.Proofs.YtchjegojcpbfpaaGreat

namespace Go.Proofs.YtchjegojcpbfpaaGreat
open Go.RowKit
set_option maxRecDepth 100000
set_option linter.unusedSimpArgs false
set_option linter.unusedVariables false
def RetK (s : Nat) (A : Option Addr) (n c : Nat) (zs : List Int) (ls : List Int) (w : World) (e : Ending) (w' : World) : Prop := ∃ r : Int, e = .returned (I r) ∧ r ∈ ls ∧ Src w' s A n c zs ∧ w.grownBy w' (some s)
theorem pick_any {s : Nat} {A : Option Addr} {n c : Nat} {zs : List Int} (g k ck : Nat) (ls : List Int) (w : World) (hS : Src w s A n c zs) (ho : OwI 2 w (s + 1) (.slice (some ⟨g, 0, none⟩) k ck) ls) (hl : ls.length = k) (h1 : 1 ≤ k) (hk : k ≤ 300) :
    Calls Tryz.prog 83 #[.pointer (some ⟨s, 0, none⟩), .slice (some ⟨g, 0, none⟩) k ck] w (RetK s A n c zs ls w) := by
  have HS := Lib.hid hS
  have Ho := Lib.hid ho
  have Hl := Lib.hid hl
  clear hS ho hl
  go_enter Tryz.func83, Tryz.ntmps83
  go_wp2_with fail
  refine (next_any k w HS.out).mono ?_
  rintro e w1 ⟨r, rfl, hr, _, hS1, hg1⟩
  obtain ⟨hr0, hrk⟩ := hr (by omega)
  obtain ⟨j, hj⟩ : ∃ j : Nat, (j : Int) = r := ⟨r.toNat, by omega⟩
  have hjk : j < k := by omega
  have hjz : (j : Int) < (k : Int) := by omega
  subst hj
  have ho1 := OwI.keep Ho.out (fun q hq => hg1.block q (Ho.out.lt q hq).2 (by have := (Ho.out.lt q hq).1; intro e; injection e with e; omega))
  obtain ⟨c0, _⟩ := OwI.spotAt ho1 (k := j) (by rw [Hl.out]; exact hjk)
  have HS1 := Lib.hid hS1
  have Hg1 := Lib.hid hg1
  have Hm : Hid (gi ls j ∈ ls) := by
    show gi ls j ∈ ls
    unfold gi
    rw [List.getD_eq_getElem?_getD, List.getElem?_eq_getElem (by rw [Hl.out]; exact hjk)]
    exact List.getElem_mem _
  obtain ⟨x, hx⟩ : ∃ x, x = gi ls j := ⟨_, rfl⟩
  rw [← hx] at c0 Hm
  clear hr hS1 hg1 ho1 hx
  go_wp2_with fail
  go_ret
  exact ⟨x, rfl, Hm.out, HS1.out, Hg1.out⟩
def RetF (A : Option Addr) (n c : Nat) (zs : List Int) (w : World) (e : Ending) (w' : World) : Prop := ∃ s, e = .returned (.pointer (some ⟨s, 0, none⟩)) ∧ w.heap.size ≤ s ∧ Src w' s A n c zs ∧ Below w.heap.size w w'
set_option maxHeartbeats 2000000 in
theorem from_any {A : Option Addr} {n c : Nat} {zs : List Int} (w : World) (hx : RdU w w.heap.size A zs) (hn : zs.length = n) (hb : n < 4611686018427387904) :
    Calls Tryz.prog 48 #[.slice A n c] w (RetF A n c zs w) := by
  obtain ⟨h0, e0, hh0⟩ := u64_some (13591 + (n : Int))
  have Hx := Lib.hid hx
  have Hn := Lib.hid hn
  have Hnb := Lib.hid hb
  have e9 : IntKind.u64.wrap (n : Int) = (n : Int) := IntWalk.u64_in _ ⟨by omega, by omega⟩
  have Hh0 := Lib.hid hh0
  clear hx hn hb hh0
  go_enter Tryz.func48, Tryz.ntmps48
  go_wp2_with fail
  obtain ⟨s, hs⟩ : ∃ s, s = w.heap.size := ⟨_, rfl⟩
  obtain ⟨wb, hwb⟩ : ∃ wb, wb = w.alloc (.cells #[.slice A n c, I 0, .int .u64 h0] TSrc) := ⟨_, rfl⟩
  have HS0 : Hid (Src wb s A n c zs) := by
    show Src _ _ _ _ _ _
    rw [hwb, hs]
    exact ⟨⟨0, h0, Nat.zero_le _, Hh0.out, Blk.new w _ _⟩, Hx.out.below ((Below.refl _ _).alloc (Nat.le_refl _) _), Hn.out, Hnb.out⟩
  have Hb0 : Hid (Below w.heap.size w wb) := by show Below _ _ _; rw [hwb]; exact (Below.refl _ _).alloc (Nat.le_refl _) _
  have Hs := Lib.hid hs
  rw [← hs, ← hwb]
  clear hwb hs e0 e9
  go_loopw [4] (fun t wr => ∃ i : Nat, t = .int .i64 i ∧ i ≤ n ∧ Src wr s A n c zs ∧ Below w.heap.size w wr) (fun t _ => n - (intOf t).toNat)
  case atStart => exact ⟨0, rfl, Nat.zero_le _, HS0.out, Hb0.out⟩
  case round =>
    clear HS0 Hb0
    obtain ⟨i, rfl, hi, hS, hb⟩ := hrel
    have HS := Lib.hid hS
    have Hb := Lib.hid hb
    clear hS hb
    by_cases hin : i < n
    · have hiz : (i : Int) < (n : Int) := by omega
      by_cases h4 : i < 4096
      · have h4z : (i : Int) < 4096 := by omega
        obtain ⟨a, h, ha, hh, hbl⟩ := HS.out.blk
        obtain ⟨m1, f1, hm1⟩ := u64_some ((h : Int) * 1099511628211)
        obtain ⟨b, off, rfl, hbs, hcz⟩ := HS.out.code.at_ (k := i) (by rw [Hn.out]; exact hin)
        have hzv := HS.out.code.val (k := i) (by rw [Hn.out]; exact hin)
        obtain ⟨z, hz⟩ : ∃ z, z = gi zs i := ⟨_, rfl⟩
        rw [← hz] at hcz hzv
        obtain ⟨m2, f2, hm2⟩ := u64_some ((m1 : Int) + z)
        obtain ⟨m3, f3, hm3⟩ := u64_some ((m2 : Int) + 181)
        have f4 : IntKind.u64.wrap z = z := IntWalk.u64_in _ ⟨by omega, by omega⟩
        have ls := hbl.lt
        have lb : b < wr.heap.size := by omega
        have Hbl := Lib.hid hbl
        have Hcz := Lib.hid hcz
        have Hm3 := Lib.hid hm3
        have Ha := Lib.hid ha
        clear hbl hcz hz hh hm1 hm2 hm3 ha hzv
        go_wp2_with fail
        refine wp_region_last [] rfl (by kernel_rfl) (by kernel_rfl) (by kernel_rfl) (by kernel_rfl) (fun w' => Below wr.heap.size wr w')
          (fun w' => ∃ w3, Below wr.heap.size wr w3 ∧ w' = w3.setCell ⟨s, 2, none⟩ (.int .u64 m3)) _
          [.pointer (some ⟨s, 0, none⟩), .pointer (some ⟨s, 0, none⟩), .pointer (some ⟨s, 0, none⟩), .pointer (some ⟨s, 2, none⟩), .int .u64 h, .int .u64 m1, .slice (some ⟨b, off, none⟩) n c, I i, .pointer (some ⟨b, off + i, none⟩), .int .u8 z, .int .u64 z, .int .u64 m2, .int .u64 m3, .pointer (some ⟨s, 0, none⟩), .pointer (some ⟨s, 2, none⟩), undef]
          (by simp only [putAll, List.setIfInBounds_toArray, List.set_cons_succ, List.set_cons_zero]; rfl) (Below.refl _ _).drew 15 _ rfl rfl ?hop ?hst ?hQ
        case hop =>
          refine FixBL.toL (fun w' w'' hS hb => hS.trans (hb.mono hS.size)) _ _ ?_
          refine ⟨.inr ?_, .inr ?_, .inr ?_, .inr ?_, .inr ?_, .inr ?_, .inr ?_, .inr ?_, .inr ?_, .inr ?_, .inr ?_, .inr ?_, .inr ?_, .inr ?_, .inr ?_, .inl rfl, trivial⟩
          · (with_reducible refine FixB.of ?_ ?_; rfl; intro w' hS; have s9 := Hbl.out.below hS ls; have s2 := s9.cell 2; simp only [List.getElem?_toArray, List.getElem?_cons_zero, List.getElem?_cons_succ] at s2; have s3 := (hS.cell (p := ⟨b, off + i, none⟩) lb).trans Hcz.out; clear s9 hS; unfold Oper.wp; go_simp; first | done | exact Below.refl _ _)
          · (with_reducible refine FixB.of ?_ ?_; rfl; intro w' hS; have s9 := Hbl.out.below hS ls; have s2 := s9.cell 2; simp only [List.getElem?_toArray, List.getElem?_cons_zero, List.getElem?_cons_succ] at s2; have s3 := (hS.cell (p := ⟨b, off + i, none⟩) lb).trans Hcz.out; clear s9 hS; unfold Oper.wp; go_simp; first | done | exact Below.refl _ _)
          · (with_reducible refine FixB.of ?_ ?_; rfl; intro w' hS; have s9 := Hbl.out.below hS ls; have s2 := s9.cell 2; simp only [List.getElem?_toArray, List.getElem?_cons_zero, List.getElem?_cons_succ] at s2; have s3 := (hS.cell (p := ⟨b, off + i, none⟩) lb).trans Hcz.out; clear s9 hS; unfold Oper.wp; go_simp; first | done | exact Below.refl _ _)
          · (with_reducible refine FixB.of ?_ ?_; rfl; intro w' hS; have s9 := Hbl.out.below hS ls; have s2 := s9.cell 2; simp only [List.getElem?_toArray, List.getElem?_cons_zero, List.getElem?_cons_succ] at s2; have s3 := (hS.cell (p := ⟨b, off + i, none⟩) lb).trans Hcz.out; clear s9 hS; unfold Oper.wp; go_simp; first | done | exact Below.refl _ _)
          · (with_reducible refine FixB.of ?_ ?_; rfl; intro w' hS; have s9 := Hbl.out.below hS ls; have s2 := s9.cell 2; simp only [List.getElem?_toArray, List.getElem?_cons_zero, List.getElem?_cons_succ] at s2; have s3 := (hS.cell (p := ⟨b, off + i, none⟩) lb).trans Hcz.out; clear s9 hS; unfold Oper.wp; go_simp; first | done | exact Below.refl _ _)
          · (with_reducible refine FixB.of ?_ ?_; rfl; intro w' hS; have s9 := Hbl.out.below hS ls; have s2 := s9.cell 2; simp only [List.getElem?_toArray, List.getElem?_cons_zero, List.getElem?_cons_succ] at s2; have s3 := (hS.cell (p := ⟨b, off + i, none⟩) lb).trans Hcz.out; clear s9 hS; unfold Oper.wp; go_simp; first | done | exact Below.refl _ _)
          · (with_reducible refine FixB.of ?_ ?_; rfl; intro w' hS; have s9 := Hbl.out.below hS ls; have s2 := s9.cell 2; simp only [List.getElem?_toArray, List.getElem?_cons_zero, List.getElem?_cons_succ] at s2; have s3 := (hS.cell (p := ⟨b, off + i, none⟩) lb).trans Hcz.out; clear s9 hS; unfold Oper.wp; go_simp; first | done | exact Below.refl _ _)
          · (with_reducible refine FixB.of ?_ ?_; rfl; intro w' hS; have s9 := Hbl.out.below hS ls; have s2 := s9.cell 2; simp only [List.getElem?_toArray, List.getElem?_cons_zero, List.getElem?_cons_succ] at s2; have s3 := (hS.cell (p := ⟨b, off + i, none⟩) lb).trans Hcz.out; clear s9 hS; unfold Oper.wp; go_simp; first | done | exact Below.refl _ _)
          · (with_reducible refine FixB.of ?_ ?_; rfl; intro w' hS; have s9 := Hbl.out.below hS ls; have s2 := s9.cell 2; simp only [List.getElem?_toArray, List.getElem?_cons_zero, List.getElem?_cons_succ] at s2; have s3 := (hS.cell (p := ⟨b, off + i, none⟩) lb).trans Hcz.out; clear s9 hS; unfold Oper.wp; go_simp; first | done | exact Below.refl _ _)
          · (with_reducible refine FixB.of ?_ ?_; rfl; intro w' hS; have s9 := Hbl.out.below hS ls; have s2 := s9.cell 2; simp only [List.getElem?_toArray, List.getElem?_cons_zero, List.getElem?_cons_succ] at s2; have s3 := (hS.cell (p := ⟨b, off + i, none⟩) lb).trans Hcz.out; clear s9 hS; unfold Oper.wp; go_simp; first | done | exact Below.refl _ _)
          · (with_reducible refine FixB.of ?_ ?_; rfl; intro w' hS; have s9 := Hbl.out.below hS ls; have s2 := s9.cell 2; simp only [List.getElem?_toArray, List.getElem?_cons_zero, List.getElem?_cons_succ] at s2; have s3 := (hS.cell (p := ⟨b, off + i, none⟩) lb).trans Hcz.out; clear s9 hS; unfold Oper.wp; go_simp; first | done | exact Below.refl _ _)
          · (with_reducible refine FixB.of ?_ ?_; rfl; intro w' hS; have s9 := Hbl.out.below hS ls; have s2 := s9.cell 2; simp only [List.getElem?_toArray, List.getElem?_cons_zero, List.getElem?_cons_succ] at s2; have s3 := (hS.cell (p := ⟨b, off + i, none⟩) lb).trans Hcz.out; clear s9 hS; unfold Oper.wp; go_simp; first | done | exact Below.refl _ _)
          · (with_reducible refine FixB.of ?_ ?_; rfl; intro w' hS; have s9 := Hbl.out.below hS ls; have s2 := s9.cell 2; simp only [List.getElem?_toArray, List.getElem?_cons_zero, List.getElem?_cons_succ] at s2; have s3 := (hS.cell (p := ⟨b, off + i, none⟩) lb).trans Hcz.out; clear s9 hS; unfold Oper.wp; go_simp; first | done | exact Below.refl _ _)
          · (with_reducible refine FixB.of ?_ ?_; rfl; intro w' hS; have s9 := Hbl.out.below hS ls; have s2 := s9.cell 2; simp only [List.getElem?_toArray, List.getElem?_cons_zero, List.getElem?_cons_succ] at s2; have s3 := (hS.cell (p := ⟨b, off + i, none⟩) lb).trans Hcz.out; clear s9 hS; unfold Oper.wp; go_simp; first | done | exact Below.refl _ _)
          · (with_reducible refine FixB.of ?_ ?_; rfl; intro w' hS; have s9 := Hbl.out.below hS ls; have s2 := s9.cell 2; simp only [List.getElem?_toArray, List.getElem?_cons_zero, List.getElem?_cons_succ] at s2; have s3 := (hS.cell (p := ⟨b, off + i, none⟩) lb).trans Hcz.out; clear s9 hS; unfold Oper.wp; go_simp; first | done | exact Below.refl _ _)
        case hst =>
          refine ⟨rfl, fun w' hS => ?_⟩
          have s9 := Hbl.out.below hS ls
          have c2 := s9.cell 2
          have z2 := s9.frozen 2
          simp only [List.getElem?_toArray, List.getElem?_cons_zero, List.getElem?_cons_succ] at c2
          have Hs := Lib.hid hS
          clear hS s9
          unfold Oper.wp
          go_simp
          exact ⟨w', Hs.out, rfl⟩
        case hQ =>
        rintro w' ⟨w6, hb6, rfl⟩
        have b6 := (Hbl.out.below hb6 ls).set_ 2 (.int .u64 m3)
        have HS6 : Hid (Src (w6.setCell ⟨s, 2, none⟩ (.int .u64 m3)) s (some ⟨b, off, none⟩) n c zs) := by
          refine ⟨⟨a, m3, Ha.out, Hm3.out, b6.cast ?_⟩, ?_, Hn.out, Hnb.out⟩
          · simp only [List.setIfInBounds_toArray, List.set_cons_succ, List.set_cons_zero]
          · exact (HS.out.code.below (hb6.mono (Nat.le_of_lt ls))).below ((Below.refl _ _).setCell (p := ⟨s, 2, none⟩) (Nat.le_refl _) _)
        have Hb6 := Lib.hid ((Hb.out.trans (hb6.mono Hb.out.size)).setCell (p := ⟨s, 2, none⟩) (Nat.le_of_eq Hs.out.symm) (.int .u64 m3))
        clear b6 hb6
        go_wp2_with fail
        go_roundw
        case rel => exact ⟨i + 1, by go_num, Nat.succ_le_of_lt hin, HS6.out, Hb6.out⟩
        case measure => simp [intOf]; omega
      · have h4z : ¬ ((i : Int) < 4096) := by omega
        go_wp2_with fail
        go_ret
        exact ⟨s, rfl, Nat.le_of_eq Hs.out.symm, HS.out, Hb.out⟩
    · have hiz : ¬ ((i : Int) < (n : Int)) := by omega
      go_wp2_with fail
      go_ret
      exact ⟨s, rfl, Nat.le_of_eq Hs.out.symm, HS.out, Hb.out⟩
end Go.Proofs.YtchjegojcpbfpaaGreat

namespace Go.Proofs.YtchjegojcpbfpaaGreat
open Go.RowKit
set_option maxRecDepth 100000
set_option linter.unusedSimpArgs false
set_option linter.unusedVariables false
theorem cI_one3 {zs : List Int} : ∀ u ∈ cI zs, u.oneCell' = true := fun u hu => by
  obtain ⟨z, _, rfl⟩ := List.mem_map.1 hu
  rfl
theorem cI_app3 (xs ys : List Int) : cI (xs ++ ys) = cI xs ++ cI ys := by simp [cI]
theorem wp_catI3 {w : World} {o : Oper} {a : Act} {K : Act → World → Prop} {Q : Exit → Act → World → Prop} (s x : Operand)
    (ho : o.op = .call { callee := .builtin .append, args := #[s, x], argTypes := #[39, 39] }) (B : Nat) (v : Value) (ms xs : List Int) (hs : a.eval s = v) (hown : OwI 2 w B v ms)
    (g off n c : Nat) (hx : a.eval x = .slice (some ⟨g, off, none⟩) n c) (hc : ∀ j, j < xs.length → w.cell? ⟨g, off + j, none⟩ = some (I (gi xs j))) (hn : xs.length = n)
    (hb : ms.length + n < 1073741824) (hB : B ≤ w.heap.size)
    (h : ∀ v' w', OwI 2 w' B v' (ms ++ xs) → w.grownBy w' v.ownBlock → K (a.put o.dst v') w') : o.wp Tryz.prog a w K Q := by
  obtain ⟨i, hi, hz0, hz1, hz2⟩ := info_parts infoI
  subst hn
  refine wp_append_own_wide w s x 39 ho B 2 i (.int .i64 0) 1 8 Tryz.underlying39 hi hz0 hz1 hz2 rfl (by decide) v ms.length (cI ms) hs hown ⟨g, off, none⟩ xs.length c (cI xs) hx (by rw [cI_length]; omega) ?_ ?_ (by unfold maxLen; omega) (by omega) hB ?_
  · intro j u hj
    have hjl : j < xs.length := by
      rcases Nat.lt_or_ge j xs.length with h | h
      · exact h
      · rw [List.getElem?_eq_none (by rw [cI_length]; exact h)] at hj; cases hj
    rw [cI_get hjl] at hj
    injection hj with hj
    subst hj
    have := hc j hjl
    unfold Addr.add
    split
    · rename_i h0; subst h0; first | exact this | (simp; done) | (simp at this ⊢; exact this)
    · exact this
  · exact cI_one3
  · intro v' w' h1 h2 _
    refine h v' w' ?_ h2
    unfold OwI
    rw [cI_app3, List.length_append]
    exact h1
theorem wpList_catI3 {w : World} {ops : Array Oper} {rest : List Oper} {o : Oper} {a : Act} {Q : Exit → Act → World → Prop} (hgd : o.guard = none) (s x : Operand)
    (ho : o.op = .call { callee := .builtin .append, args := #[s, x], argTypes := #[39, 39] }) (B : Nat) (v : Value) (ms xs : List Int) (hs : a.eval s = v) (hown : OwI 2 w B v ms)
    (g off n c : Nat) (hx : a.eval x = .slice (some ⟨g, off, none⟩) n c) (hc : ∀ j, j < xs.length → w.cell? ⟨g, off + j, none⟩ = some (I (gi xs j))) (hn : xs.length = n)
    (hb : ms.length + n < 1073741824) (hB : B ≤ w.heap.size)
    (h : ∀ v' w', OwI 2 w' B v' (ms ++ xs) → w.grownBy w' v.ownBlock → wpList Tryz.prog ops Q rest (a.put o.dst v') w') : wpList Tryz.prog ops Q (o :: rest) a w :=
  wpList_plain hgd fun _ hK => wp_catI3 s x ho B v ms xs hs hown g off n c hx hc hn hb hB fun v' w' h2 h3 => hK _ _ (h v' w' h2 h3)
def RetV (zs : List Int) (w : World) (e : Ending) (w' : World) : Prop := ∃ v, e = .returned v ∧ OwI 2 w' w.heap.size v zs ∧ Below w.heap.size w w'
theorem own3_any (g n c : Nat) (zs : List Int) (w : World) (hc : ∀ j, j < zs.length → w.cell? ⟨g, j, none⟩ = some (I (gi zs j))) (hg : g < w.heap.size) (hn : zs.length = n) (hb : n ≤ 300) :
    Calls Tryz.prog 110 #[.slice (some ⟨g, 0, none⟩) n c] w (RetV zs w) := by
  have Hc := Lib.hid hc
  have Hn := Lib.hid hn
  clear hc hn
  go_enter Tryz.func110, Tryz.ntmps110
  go_wp2_with (at_builtin; refine wpList_catI3 rfl (.tmp 3) (.tmp 4) rfl w.heap.size (.slice (some ⟨w.heap.size, 0, none⟩) 0 0) [] zs rfl (OwI.made (Nat.le_refl _)) g 0 n c rfl (fun j hj => by rw [Nat.zero_add]; exact (World.cell?_alloc_lt _ _ _ hg).trans (Hc.out j hj)) Hn.out (by simp; omega) (by simp) ?_; intro v' w1 hown' hgr; have Ho1 := Lib.hid hown'; have Hb1 := Lib.hid (((OwI.made (e := 2) (Nat.le_refl w.heap.size))).bel ((Below.refl w.heap.size w).alloc (Nat.le_refl _) (.cells #[] 2)) hgr (Nat.le_refl _) (by simp)); clear hown' hgr)
  go_ret
  exact ⟨v', rfl, Ho1.out, Hb1.out⟩
structure OS where
  v1 : Value
  q : Nat
  v2 : Value
  v3 : Value
structure SO (w0 : World) (L : List Int) (a i : Nat) (b3 b5 b6 b10 : Bool) (s : OS) (w : World) : Prop where
  bel : Below w0.heap.size w0 w
  h3 : b3 = true → b6 = false → OwI 2 w w0.heap.size s.v1 (L.take a)
  h5 : b5 = true → b6 = false → Blk w s.q 2 #[I i] ∧ w0.heap.size ≤ s.q
  h6 : b6 = true → b10 = false → OwI 2 w w0.heap.size s.v2 (L.take a ++ [(i : Int)])
  h10 : b10 = true → OwI 2 w w0.heap.size s.v3 (L.take a ++ [(i : Int)] ++ L.drop a)
section
variable {w0 w w' : World} {L : List Int} {a i : Nat} {b3 b5 b6 b10 : Bool} {s : OS}
theorem SO.below (h : SO w0 L a i b3 b5 b6 b10 s w) (hb : Below w.heap.size w w') : SO w0 L a i b3 b5 b6 b10 s w' :=
  ⟨h.bel.trans (hb.mono h.bel.size), fun e e2 => (h.h3 e e2).below hb (Nat.le_refl _), fun e e2 => ⟨(h.h5 e e2).1.below hb (h.h5 e e2).1.lt, (h.h5 e e2).2⟩, fun e e2 => (h.h6 e e2).below hb (Nat.le_refl _), fun e => (h.h10 e).below hb (Nat.le_refl _)⟩
theorem SO.do3 (h : SO w0 L a i false b5 false false s w) (hb : Below w.heap.size w w') {v : Value} (hv : OwI 2 w' w.heap.size v (L.take a)) : SO w0 L a i true b5 false false { s with v1 := v } w' :=
  ⟨(h.below hb).bel, fun _ _ => hv.mono h.bel.size, (h.below hb).h5, (by simp), (by simp)⟩
theorem SO.do5 (h : SO w0 L a i b3 false false false s w) : SO w0 L a i b3 true false false { s with q := w.heap.size } (w.alloc (.cells #[I i] 2)) := by
  have hb : Below w.heap.size w (w.alloc (.cells #[I i] 2)) := (Below.refl _ _).alloc (Nat.le_refl _) _
  exact ⟨(h.below hb).bel, (h.below hb).h3, fun _ _ => ⟨Blk.new w _ _, h.bel.size⟩, (by simp), (by simp)⟩
theorem SO.do6 (h : SO w0 L a i true true false false s w) {v : Value} (hv : OwI 2 w' w0.heap.size v (L.take a ++ [(i : Int)])) (hg : w.grownBy w' s.v1.ownBlock) : SO w0 L a i true true true false { s with v2 := v } w' :=
  ⟨(h.h3 rfl rfl).bel h.bel hg (Nat.le_refl _) h.bel.size, (by simp), (by simp), fun _ _ => hv, (by simp)⟩
theorem SO.do10 (h : SO w0 L a i true true true false s w) {v : Value} (hv : OwI 2 w' w0.heap.size v (L.take a ++ [(i : Int)] ++ L.drop a)) (hg : w.grownBy w' s.v2.ownBlock) : SO w0 L a i true true true true { s with v3 := v } w' :=
  ⟨(h.h6 rfl rfl).bel h.bel hg (Nat.le_refl _) h.bel.size, (by simp), (by simp), (by simp), fun _ => hv⟩
end
theorem OwI.cap_le {e : TypeId} {w : World} {B g n c : Nat} {zs : List Int} (h : OwI e w B (.slice (some ⟨g, 0, none⟩) n c) zs) : n ≤ c := by
  rcases h.2 with ⟨h1, _⟩ | ⟨g', cap, cur, h1, _, _, h2, _⟩
  · cases h1
  · injection h1 with _ h3 h4
    omega
theorem gi_take {L : List Int} {a j : Nat} (h : j < a) : gi L j = gi (L.take a) j := by
  unfold gi
  rw [List.getD_eq_getElem?_getD, List.getD_eq_getElem?_getD, List.getElem?_take, if_pos h]
theorem gi_drop3 {L : List Int} {a j : Nat} : gi L (a + j) = gi (L.drop a) j := by
  unfold gi
  rw [List.getD_eq_getElem?_getD, List.getD_eq_getElem?_getD, List.getElem?_drop]
def RetO (s : Nat) (A : Option Addr) (n c : Nat) (zs : List Int) (k : Nat) (w : World) (e : Ending) (w' : World) : Prop :=
  ∃ (g ci : Nat) (L : List Int), e = .returned (.slice (some ⟨g, 0, none⟩) k ci) ∧ OwI 2 w' w.heap.size (.slice (some ⟨g, 0, none⟩) k ci) L ∧ L.length = k ∧ Src w' s A n c zs ∧ w.grownBy w' (some s)
set_option maxHeartbeats 2000000 in
theorem order_any {s : Nat} {A : Option Addr} {n c : Nat} {zs : List Int} (k : Nat) (hk : k ≤ 5) (w : World) (hS : Src w s A n c zs) :
    Calls Tryz.prog 113 #[.pointer (some ⟨s, 0, none⟩), I k] w (RetO s A n c zs k w) := by
  have HS := Lib.hid hS
  have hsl := hS.lt
  clear hS
  go_enter Tryz.func113, Tryz.ntmps113
  go_wp2_with fail
  go_loopw [5, 6] (fun v t wr => ∃ (i g ci : Nat) (L : List Int), t = .int .i64 i ∧ i ≤ k ∧ v = .slice (some ⟨g, 0, none⟩) i ci ∧ OwI 2 wr w.heap.size (.slice (some ⟨g, 0, none⟩) i ci) L ∧ L.length = i ∧ Src wr s A n c zs ∧ w.grownBy wr (some s)) (fun _ t _ => k - (intOf t).toNat)
  case atStart => exact ⟨0, w.heap.size, 0, [], rfl, Nat.zero_le _, rfl, OwI.made (Nat.le_refl _), rfl, HS.out.alloc _, World.grownBy_alloc w _ _⟩
  case round =>
    obtain ⟨i, g, ci, L, rfl, hi, rfl, ho, hl, hS, hg⟩ := hrel
    have HS := Lib.hid hS
    have Ho := Lib.hid ho
    have Hl := Lib.hid hl
    have Hg := Lib.hid hg
    have hszr := hg.size
    clear hS ho hl hg
    by_cases hik : i < k
    · have hiz : (i : Int) < (k : Int) := by omega
      go_wp2_with fail
      have hnx := next_any ((i : Int) + 1) wr HS.out
      refine hnx.mono ?_
      rintro e w1 ⟨r, rfl, hr, _, hS1, hg1⟩
      obtain ⟨hr0, hr1⟩ := hr (by omega)
      obtain ⟨a, ha⟩ : ∃ a : Nat, (a : Int) = r := ⟨r.toNat, by omega⟩
      subst ha
      have hai : a ≤ i := by omega
      have haz : (a : Int) ≤ (i : Int) := by omega
      have ho1 := OwI.keep Ho.out (fun q hq => hg1.block q (Ho.out.lt q hq).2 (by have := (Ho.out.lt q hq).1; intro e; injection e with e; omega))
      have hci := ho1.cap_le
      have hac : a ≤ ci := Nat.le_trans hai hci
      have hacz : (a : Int) ≤ (ci : Int) := by omega
      obtain ⟨oa, hoa, hoa2⟩ : ∃ oa, (if ci = a then (some ⟨g, 0, none⟩ : Option Addr) else some ⟨g, a, none⟩) = some ⟨g, oa, none⟩ ∧ (¬ ci = a → oa = a) := by
        by_cases e : ci = a
        · exact ⟨0, by rw [if_pos e], fun h => absurd e h⟩
        · exact ⟨a, by rw [if_neg e], fun _ => rfl⟩
      have Hoa2 := Lib.hid hoa2
      clear hoa2
      have hicz : (i : Int) ≤ (ci : Int) := by omega
      have hlt1 := (ho1.lt g rfl).2
      have Ho1 := Lib.hid ho1
      have HC : Hid (∀ w', Below w1.heap.size w1 w' → ∀ j, j < i → w'.cell? ⟨g, j, none⟩ = some (I (gi L j))) := fun w' hb j hj =>
        (hb.cell (p := ⟨g, j, none⟩) hlt1).trans (OwI.spotAt ho1 (k := j) (by rw [Hl.out]; exact hj)).1
      have HS1 := Lib.hid hS1
      have Hg1 := Lib.hid (grown_trans Hg.out hg1)
      have hz1 := Hg1.out.size
      have htl : (L.take a).length = a := by rw [List.length_take, Hl.out]; omega
      have hdl : (L.drop a).length = i - a := by rw [List.length_drop, Hl.out]
      have Htl := Lib.hid htl
      have Hdl := Lib.hid hdl
      clear hnx hr hr0 hr1 hS1 hg1 ho1 htl hdl
      go_wp2_with fail
      refine wp_region_flags [] rfl (by kernel_rfl) (by kernel_rfl) [5] (by kernel_rfl) _
        (fun o : OS => [.slice (some ⟨g, 0, none⟩) i ci, I a, .slice (some ⟨g, 0, none⟩) a ci, o.v1, I i, .slice (some ⟨o.q, 0, none⟩) 1 1, o.v2, .slice (some ⟨g, 0, none⟩) i ci, I a, .slice (some ⟨g, oa, none⟩) (i - a) (ci - a), o.v3, o.v3])
        (by intro o; simp only [putAll, List.setIfInBounds_toArray, List.set_cons_succ, List.set_cons_zero]; rfl)
        [(5, .slice (some ⟨g, 0, none⟩) i ci)] rfl _
        (by intro o; simp only [setAll, List.setIfInBounds_toArray, List.set_cons_succ, List.set_cons_zero]; rfl) (by kernel_rfl)
        (fun d o w' => SO w1 L a i (d 3) (d 5) (d 6) (d 10) o w')
        ⟨undef, 0, undef, undef⟩ ⟨(Below.refl _ _).drew, by simp, by simp, by simp, by simp⟩ ?hop ?hQ
      case hop =>
        refine ⟨?_, ?_, ?_, ?_, ?_, ?_, ?_, ?_, ?_, ?_, ?_, ?_, trivial⟩
        · refine ⟨rfl, Flag.pure (fun _ _ _ h => h) fun d c w' hd hdeps hcl hS => ?_⟩
          skip
          clear hS hdeps hcl hd
          unfold Oper.wp
          go_simp
          exact ⟨rfl, fun t ht => by injection ht with ht; subst ht; rfl, rfl⟩
        · refine ⟨rfl, Flag.pure (fun _ _ _ h => h) fun d c w' hd hdeps hcl hS => ?_⟩
          skip
          clear hS hdeps hcl hd
          unfold Oper.wp
          go_simp
          exact ⟨rfl, fun t ht => by injection ht with ht; subst ht; rfl, rfl⟩
        · refine ⟨rfl, Flag.pure (fun _ _ _ h => h) fun d c w' hd hdeps hcl hS => ?_⟩
          skip
          clear hS hdeps hcl hd
          unfold Oper.wp
          go_simp
          exact ⟨rfl, fun t ht => by injection ht with ht; subst ht; rfl, rfl⟩
        · refine ⟨rfl, fun d o w' hd hdeps hcl hS => ?_⟩
          have d6 := hcl.down (k := 6) (j := 3) rfl (by kernel_rfl) hd
          have d10 := hcl.down (k := 10) (j := 6) rfl (by kernel_rfl) d6
          have hS : SO w1 L a i (d 3) (d 5) (d 6) (d 10) o w' := hS
          rw [hd, d6, d10] at hS
          have HSO := Lib.hid hS
          clear hS hdeps hcl
          unfold Oper.wp
          go_simp
          refine (own3_any g a ci (L.take a) w' (fun j hj => ?_) (Nat.lt_of_lt_of_le hlt1 HSO.out.bel.size) Htl.out (by omega)).mono ?_
          · rw [Htl.out] at hj
            rw [HC.out w' HSO.out.bel j (by omega), gi_take hj]
          · rintro e w6 ⟨v, rfl, ho, hb6⟩
            refine FlagPost.own ({ o with v1 := v } : OS) 21 v rfl rfl rfl ?_ rfl
            show SO _ _ _ _ true (d 5) (d 6) (d 10) _ _
            rw [d6, d10]
            exact HSO.out.do3 hb6 ho
        · refine ⟨rfl, Flag.pure (fun _ _ _ h => h) fun d c w' hd hdeps hcl hS => ?_⟩
          skip
          clear hS hdeps hcl hd
          unfold Oper.wp
          go_simp
          exact ⟨rfl, fun t ht => by injection ht with ht; subst ht; rfl, rfl⟩
        · refine ⟨rfl, fun d o w' hd hdeps hcl hS => ?_⟩
          have d6 := hcl.down (k := 6) (j := 5) rfl (by kernel_rfl) hd
          have d10 := hcl.down (k := 10) (j := 6) rfl (by kernel_rfl) d6
          have hS : SO w1 L a i (d 3) (d 5) (d 6) (d 10) o w' := hS
          rw [hd, d6, d10] at hS
          have hS2 := Lib.hid hS.do5
          clear hS hdeps hcl
          unfold Oper.wp
          go_simp
          refine FlagPost.own ({ o with q := w'.heap.size } : OS) 23 (.slice (some ⟨w'.heap.size, 0, none⟩) 1 1) rfl rfl rfl ?_ rfl
          show SO _ _ _ _ (d 3) true (d 6) (d 10) _ _
          rw [d6, d10]
          exact hS2.out
        · refine ⟨rfl, fun d o w' hd hdeps hcl hS => ?_⟩
          have d3 := hdeps 3 (by kernel_rfl)
          have d5 := hdeps 5 (by kernel_rfl)
          have d10 := hcl.down (k := 10) (j := 6) rfl (by kernel_rfl) hd
          have hS : SO w1 L a i (d 3) (d 5) (d 6) (d 10) o w' := hS
          rw [d3, d5, hd, d10] at hS
          refine wp_catI3 (.tmp 21) (.tmp 23) rfl w1.heap.size o.v1 (L.take a) [(i : Int)] rfl (hS.h3 rfl rfl) o.q 0 1 1 rfl (fun j hj => ?_) rfl (by rw [Htl.out]; omega) hS.bel.size ?_
          · have hj0 : j = 0 := by simpa using hj
            subst hj0
            exact ((hS.h5 rfl rfl).1.cell 0)
          · intro v' w6 ho hg
            refine FlagPost.own ({ o with v2 := v' } : OS) 24 v' rfl rfl rfl ?_ rfl
            show SO _ _ _ _ (d 3) (d 5) true (d 10) _ _
            rw [d3, d5, d10]
            exact hS.do6 ho hg
        · refine ⟨rfl, Flag.pure (fun _ _ _ h => h) fun d c w' hd hdeps hcl hS => ?_⟩
          skip
          clear hS hdeps hcl hd
          unfold Oper.wp
          go_simp
          exact ⟨rfl, fun t ht => by injection ht with ht; subst ht; rfl, rfl⟩
        · refine ⟨rfl, Flag.pure (fun _ _ _ h => h) fun d c w' hd hdeps hcl hS => ?_⟩
          skip
          clear hS hdeps hcl hd
          unfold Oper.wp
          go_simp
          exact ⟨rfl, fun t ht => by injection ht with ht; subst ht; rfl, rfl⟩
        · refine ⟨rfl, Flag.pure (fun _ _ _ h => h) fun d c w' hd hdeps hcl hS => ?_⟩
          skip
          clear hS hdeps hcl hd
          unfold Oper.wp
          go_simp
          exact ⟨rfl, fun t ht => by injection ht with ht; subst ht; rfl, rfl⟩
        · refine ⟨rfl, fun d o w' hd hdeps hcl hS => ?_⟩
          have d6 := hdeps 6 (by kernel_rfl)
          have d3 := hcl.up (k := 6) (j := 3) rfl (by kernel_rfl) d6
          have d5 := hcl.up (k := 6) (j := 5) rfl (by kernel_rfl) d6
          have d11 := hcl.down (k := 11) (j := 10) rfl (by kernel_rfl) hd
          have hS : SO w1 L a i (d 3) (d 5) (d 6) (d 10) o w' := hS
          rw [d3, d5, d6, hd] at hS
          refine wp_catI3 (.tmp 24) (.tmp 27) rfl w1.heap.size o.v2 (L.take a ++ [(i : Int)]) (L.drop a) rfl (hS.h6 rfl rfl) g oa (i - a) (ci - a) rfl (fun j hj => ?_) Hdl.out (by rw [List.length_append, Htl.out, List.length_singleton]; omega) hS.bel.size ?_
          · rw [Hdl.out] at hj
            rw [Hoa2.out (by omega), HC.out w' hS.bel (a + j) (by omega), gi_drop3]
          · intro v' w6 ho hg
            refine FlagPost.two ({ o with v3 := v' } : OS) 28 v' 11 _ 5 rfl rfl rfl ?_ rfl rfl rfl (by decide) d11
            show SO _ _ _ _ (d 3) (d 5) (d 6) true _ _
            rw [d3, d5, d6]
            exact hS.do10 ho hg
        · refine ⟨rfl, Flag.pure (fun _ _ _ h => h) fun d c w' hd hdeps hcl hS => ?_⟩
          skip
          clear hS hdeps hcl hd
          unfold Oper.wp
          go_simp
          exact ⟨rfl, fun t ht => by injection ht with ht; subst ht; rfl, rfl⟩
      case hQ =>
      intro fl o we hall hS
      have hS : SO w1 L a i (fl 3) (fl 5) (fl 6) (fl 10) o we := hS
      rw [hall 10 (by decide)] at hS
      have ho := hS.h10 rfl
      have hll : (L.take a ++ [(i : Int)] ++ L.drop a).length = i + 1 := by rw [List.length_append, List.length_append, Htl.out, Hdl.out, List.length_singleton]; omega
      obtain ⟨v1, q1, v2, v3⟩ := o
      obtain ⟨A7, c7, hv7, _⟩ := ho.form
      rw [hll] at hv7
      simp only at hv7
      subst hv7
      obtain ⟨g7, rfl⟩ : ∃ g7, A7 = some ⟨g7, 0, none⟩ := by
        rcases ho.2 with ⟨h1, h0⟩ | ⟨g', cap, cur, h1, _⟩
        · omega
        · injection h1 with h2 _ _
          exact ⟨g', h2⟩
      have Ho7 := Lib.hid (ho.mono hz1)
      have HS7 := Lib.hid (HS1.out.below hS.bel)
      have Hg7 := Lib.hid (grown_trans Hg1.out (grown_below hS.bel _))
      have Hll := Lib.hid hll
      clear hall hS ho hll
      go_wp2_with fail
      go_roundw
      case rel => exact ⟨i + 1, g7, c7, _, by go_num, Nat.succ_le_of_lt hik, rfl, Ho7.out, Hll.out, HS7.out, Hg7.out⟩
      case measure => simp [intOf]; omega
    · obtain rfl : i = k := by omega
      have hiz : ¬ ((i : Int) < (i : Int)) := by omega
      go_wp2_with fail
      go_ret
      exact ⟨g, ci, L, rfl, Ho.out, Hl.out, HS.out, Hg.out⟩
end Go.Proofs.YtchjegojcpbfpaaGreat

namespace Go.Proofs.YtchjegojcpbfpaaGreat
open Go.RowKit
set_option maxRecDepth 100000
set_option linter.unusedSimpArgs false
set_option linter.unusedVariables false
theorem OwI.lit {e : TypeId} {B : Nat} (w : World) (L : List Int) {n : Nat} (hn : L.length = n) (h1 : n ≤ 300) (hb : B ≤ w.heap.size) : OwI e (w.alloc (.cells (cI L).toArray e)) B (.slice (some ⟨w.heap.size, 0, none⟩) n n) L := by
  subst hn
  exact ⟨by rw [cI_length]; omega, .inr ⟨w.heap.size, L.length, (cI L).toArray, rfl, hb, Blk.new w _ _, Nat.le_refl _, by unfold maxLen; omega, by simp [cI_length], by simp [List.take_of_length_le, cI_length]⟩⟩
theorem OwI.rd4 {e : TypeId} {w : World} {B n c : Nat} {A : Option Addr} {zs : List Int} (h : OwI e w B (.slice A n c) zs) : RdI w w.heap.size A zs := by
  obtain ⟨A', c', e', hx⟩ := h.form
  injection e' with e1 e2 e3
  subst e1
  exact hx
def RetMp (s : Nat) (A : Option Addr) (n c : Nat) (zs : List Int) (P : M → Prop) (w : World) (e : Ending) (w' : World) : Prop := ∃ m : M, e = .returned (.agg (mc m)) ∧ P m ∧ Src w' s A n c zs ∧ w.grownBy w' (some s)
structure DM (w0 : World) (s : Nat) (A : Option Addr) (n c : Nat) (zs : List Int) (k : Nat) (m : M) (w : World) : Prop where
  src : Src w s A n c zs
  res : Blk w w0.heap.size 31 (mc M0)
  own : Blk w (w0.heap.size + 1) 31 (mc m)
  pts : m.p = k
  gr : w0.grownBy w (some s)
  low : s < w0.heap.size
section
variable {w0 w w' : World} {s : Nat} {A : Option Addr} {n c : Nat} {zs : List Int} {k : Nat} {m : M}
theorem DM.next (h : DM w0 s A n c zs k m w) (hs : Src w' s A n c zs) (hg : w.grownBy w' (some s)) : DM w0 s A n c zs k m w' :=
  ⟨hs, h.res.grown hg (fun e => by have := h.low; injection e with e; omega), h.own.grown hg (fun e => by have := h.low; injection e with e; omega), h.pts, grown_trans h.gr hg, h.low⟩
theorem DM.set (h : DM w0 s A n c zs k m w) {j : Nat} (hj : j < 5) (v : Int) : DM w0 s A n c zs k (M.mk' m.p fun i => if i = j then v else m.at i) (w.setCell ⟨w0.heap.size + 1, 1 + j, none⟩ (I v)) :=
  ⟨h.src.cell_far (by have := h.low; show s < w0.heap.size + 1; omega) _, h.res.far (by show w0.heap.size ≠ w0.heap.size + 1; omega) _, (h.own.set_ (1 + j) (I v)).cast (by rw [← mk'_eta m]; exact mc_set m.p m.at v hj), h.pts,
    ⟨h.gr.os, h.gr.tape, h.gr.output, by simpa [World.setCell] using h.gr.size, fun q hq hne => (Below.heap_setCell _ _ _ q (by show q ≠ w0.heap.size + 1; omega)).trans (h.gr.block q hq hne)⟩, h.low⟩
theorem Src.st6 (h : Src w s A n c zs) {q : Nat} (hq : s < q) (m : M) : Src (st6 w q m) s A n c zs :=
  (((((h.cell_far (p := ⟨q, 0, none⟩) hq _).cell_far (p := ⟨q, 1, none⟩) hq _).cell_far (p := ⟨q, 2, none⟩) hq _).cell_far (p := ⟨q, 3, none⟩) hq _).cell_far (p := ⟨q, 4, none⟩) hq _).cell_far (p := ⟨q, 5, none⟩) hq _
theorem grown_far {w0 w : World} {row : Option Nat} (h : w0.grownBy w row) {p : Addr} (hp : w0.heap.size ≤ p.block) (v : Value) : w0.grownBy (w.setCell p v) row :=
  ⟨h.os, h.tape, h.output, by simpa [World.setCell] using h.size, fun q hq hne => (Below.heap_setCell _ _ _ q (by omega)).trans (h.block q hq hne)⟩
theorem grown_st6 {w0 w : World} {row : Option Nat} (h : w0.grownBy w row) {q : Nat} (hq : w0.heap.size ≤ q) (m : M) : w0.grownBy (st6 w q m) row :=
  grown_far (p := ⟨q, 5, none⟩) (grown_far (p := ⟨q, 4, none⟩) (grown_far (p := ⟨q, 3, none⟩) (grown_far (p := ⟨q, 2, none⟩) (grown_far (p := ⟨q, 1, none⟩) (grown_far (p := ⟨q, 0, none⟩) h hq _) hq _) hq _) hq _) hq _) hq _
theorem DM.st (h : DM w0 s A n c zs k m w) (m' : M) (hp : m'.p = k) : DM w0 s A n c zs k m' (st6 w (w0.heap.size + 1) m') :=
  ⟨h.src.st6 (by have := h.low; omega) m', (((((h.res.far (p := ⟨w0.heap.size + 1, 0, none⟩) (by simp) _).far (p := ⟨w0.heap.size + 1, 1, none⟩) (by simp) _).far (p := ⟨w0.heap.size + 1, 2, none⟩) (by simp) _).far (p := ⟨w0.heap.size + 1, 3, none⟩) (by simp) _).far (p := ⟨w0.heap.size + 1, 4, none⟩) (by simp) _).far (p := ⟨w0.heap.size + 1, 5, none⟩) (by simp) _, h.own.st6 m', hp, grown_st6 h.gr (by omega) m', h.low⟩
theorem DM.fin (h : DM w0 s A n c zs k m w) (m' : M) (hp : m'.p = k) : RetMp s A n c zs (fun m => m.p = k) w0 (.returned (.agg (mc m'))) (st6 w w0.heap.size m') :=
  ⟨m', rfl, hp, h.src.st6 h.low m', grown_st6 h.gr (Nat.le_refl _) m'⟩
end
set_option maxHeartbeats 4000000 in
theorem drawOf_any {s : Nat} {A : Option Addr} {n c : Nat} {zs : List Int} (k : Nat) (h1 : 1 ≤ k) (h5 : k ≤ 5) (w : World) (hS : Src w s A n c zs) :
    Calls Tryz.prog 77 #[.pointer (some ⟨s, 0, none⟩), I k] w (RetMp s A n c zs (fun m => m.p = k) w) := by
  have HS := Lib.hid hS
  have hsl := hS.lt
  clear hS
  go_enter Tryz.func77, Tryz.ntmps77
  go_wp2_with fail
  have D0 : DM w s A n c zs k ⟨k, 0, 0, 0, 0, 0⟩ ((w.alloc (.cells (mc M0) 31)).alloc (.cells (mc ⟨k, 0, 0, 0, 0, 0⟩) 31)) :=
    ⟨(HS.out.alloc _).alloc _, (Blk.new w _ _).alloc _, Blk.new' _ _ _ (by simp), rfl, grown_below (((Below.refl _ _).alloc (Nat.le_refl _) _).alloc (by simp) _) _, hsl⟩
  refine (next_any 6 _ D0.src).mono ?_
  rintro e w1 ⟨r, rfl, hr, _, hS1, hg1⟩
  have D1 := Lib.hid (D0.next hS1 hg1)
  have hr6 := hr (by decide)
  clear hr hS1 hg1 D0
  by_cases r0 : r = 0
  · subst r0
    go_wp2_with fail
    refine (order_any k h5 w1 D1.out.src).mono ?_
    rintro e w2 ⟨g, ci, L, rfl, ho, hl, hS2, hg2⟩
    have D2 := Lib.hid (D1.out.next hS2 hg2)
    have Ho := Lib.hid ho
    have Hl := Lib.hid hl
    clear ho hl hS2 hg2
    go_wp2_with fail
    refine (l01Made_any _ k ci L w2 (OwI.rd4 Ho.out) Hl.out h5).mono ?_
    rintro e w3 ⟨rfl, hb3⟩
    have D3 := Lib.hid (D2.out.next (D2.out.src.below hb3) (grown_below hb3 _))
    have Hp : Hid ((made L).p = k) := by show (made L).p = k; rw [made_p, Hl.out]
    obtain ⟨e0, e1, e2, e3, e4, e5⟩ := D3.out.res.six
    obtain ⟨z0, z1, z2, z3, z4, z5⟩ := D3.out.res.fr6
    generalize made L = m at *
    clear hb3
    go_wp2_with fail
    refine bodyPost_ret (v := .agg (mc m)) ?_ rfl (D3.out.fin m Hp.out)
    simp [results, Tryz.results77, go_sem, *]
  by_cases r1 : r = 1
  · subst r1
    go_wp2_with fail
    refine (l01Identity_any k w1 (by omega) (by omega)).mono ?_
    rintro e w2 ⟨rfl, hb2⟩
    have D2 := D1.out.next (D1.out.src.below hb2) (grown_below hb2 _)
    have D3 := D2.st (one k) rfl
    have DD := Lib.hid D3
    obtain ⟨e0, e1, e2, e3, e4, e5⟩ := D2.own.six
    obtain ⟨z0, z1, z2, z3, z4, z5⟩ := D2.own.fr6
    clear D2 D3 hb2
    have Hp : Hid ((one k).p = k) := by show (one k).p = k; rfl
    generalize one k = m at *
    go_wp2_with fail
    refine (next_any k _ DD.out.src).mono ?_
    rintro e w3 ⟨a, rfl, hr, _, hS3, hg3⟩
    obtain ⟨ha0, hak⟩ := hr (by omega)
    have D3 := Lib.hid (DD.out.next hS3 hg3)
    obtain ⟨j, hj⟩ : ∃ j : Nat, (j : Int) = a := ⟨a.toNat, by omega⟩
    subst hj
    have hj5 : j < 5 := by omega
    clear hr hS3 hg3 e0 e1 e2 e3 e4 e5 z0 z1 z2 z3 z4 z5 DD
    go_wp2_with fail
    go_loopw [7] (fun t wr => ∃ (i : Nat) (m : M), t = .int .i64 i ∧ i ≤ k ∧ DM w s A n c zs k m wr) (fun t _ => k - (intOf t).toNat)
    case atStart => exact ⟨0, m, rfl, Nat.zero_le _, D3.out⟩
    case round =>
      clear D3 Hp
      obtain ⟨i, m, rfl, hi, hD⟩ := hrel
      have D := Lib.hid hD
      clear hD
      by_cases hik : i < k
      · have hiz : (i : Int) < (k : Int) := by omega
        have hi5 : i < 5 := by omega
        go_wp2_with fail
        refine (next_any 2 _ D.out.src).mono ?_
        rintro e w4 ⟨b, rfl, hr, _, hS4, hg4⟩
        have D4 := Lib.hid (D.out.next hS4 hg4)
        clear hr hS4 hg4
        by_cases hb : b = 0
        · subst hb
          have c3 := D4.out.own.at_ hi5
          have z1 := D4.out.own.frozen (1 + i)
          go_wp2_with fail
          go_roundw
          case rel => exact ⟨i + 1, _, by go_num, Nat.succ_le_of_lt hik, D4.out.set hi5 j⟩
          case measure => simp [intOf]; omega
        · go_wp2_with fail
          go_roundw
          case rel => exact ⟨i + 1, _, by go_num, Nat.succ_le_of_lt hik, D4.out⟩
          case measure => simp [intOf]; omega
      · have hiz : ¬ ((i : Int) < (k : Int)) := by omega
        obtain ⟨d0, d1, d2, d3, d4, d5⟩ := D.out.own.six
        obtain ⟨y0, y1, y2, y3, y4, y5⟩ := D.out.own.fr6
        obtain ⟨e0, e1, e2, e3, e4, e5⟩ := D.out.res.six
        obtain ⟨z0, z1, z2, z3, z4, z5⟩ := D.out.res.fr6
        obtain rfl | rfl | rfl | rfl | rfl : j = 0 ∨ j = 1 ∨ j = 2 ∨ j = 3 ∨ j = 4 := by omega
        · have D5 := D.out.set hj5 (0 : Nat)
          go_wp2_with fail
          refine bodyPost_ret (v := .agg (mc (M.mk' m.p fun i => if i = 0 then ((0 : Nat) : Int) else m.at i))) ?_ rfl (D5.fin _ D.out.pts)
          simp [results, Tryz.results77, go_sem, *]
          exact ⟨rfl, rfl, rfl, rfl, rfl, rfl⟩
        · have D5 := D.out.set hj5 (1 : Nat)
          go_wp2_with fail
          refine bodyPost_ret (v := .agg (mc (M.mk' m.p fun i => if i = 1 then ((1 : Nat) : Int) else m.at i))) ?_ rfl (D5.fin _ D.out.pts)
          simp [results, Tryz.results77, go_sem, *]
          exact ⟨rfl, rfl, rfl, rfl, rfl, rfl⟩
        · have D5 := D.out.set hj5 (2 : Nat)
          go_wp2_with fail
          refine bodyPost_ret (v := .agg (mc (M.mk' m.p fun i => if i = 2 then ((2 : Nat) : Int) else m.at i))) ?_ rfl (D5.fin _ D.out.pts)
          simp [results, Tryz.results77, go_sem, *]
          exact ⟨rfl, rfl, rfl, rfl, rfl, rfl⟩
        · have D5 := D.out.set hj5 (3 : Nat)
          go_wp2_with fail
          refine bodyPost_ret (v := .agg (mc (M.mk' m.p fun i => if i = 3 then ((3 : Nat) : Int) else m.at i))) ?_ rfl (D5.fin _ D.out.pts)
          simp [results, Tryz.results77, go_sem, *]
          exact ⟨rfl, rfl, rfl, rfl, rfl, rfl⟩
        · have D5 := D.out.set hj5 (4 : Nat)
          go_wp2_with fail
          refine bodyPost_ret (v := .agg (mc (M.mk' m.p fun i => if i = 4 then ((4 : Nat) : Int) else m.at i))) ?_ rfl (D5.fin _ D.out.pts)
          simp [results, Tryz.results77, go_sem, *]
          exact ⟨rfl, rfl, rfl, rfl, rfl, rfl⟩
  by_cases r2 : r = 2
  · subst r2
    go_wp2_with fail
    refine (next_any k w1 D1.out.src).mono ?_
    rintro e w2 ⟨a, rfl, hr, _, hS2, hg2⟩
    have D2 := Lib.hid (D1.out.next hS2 hg2)
    clear hr hS2 hg2
    go_wp2_with fail
    refine (next_any k w2 D2.out.src).mono ?_
    rintro e w3 ⟨b, rfl, hr, _, hS3, hg3⟩
    have D3 := Lib.hid (D2.out.next hS3 hg3)
    clear hr hS3 hg3
    go_wp2_with fail
    go_loopw [10] (fun t wr => ∃ (i : Nat) (m : M), t = .int .i64 i ∧ i ≤ k ∧ DM w s A n c zs k m wr) (fun t _ => k - (intOf t).toNat)
    case atStart => exact ⟨0, _, rfl, Nat.zero_le _, D3.out⟩
    case round =>
      clear D3
      obtain ⟨i, m, rfl, hi, hD⟩ := hrel
      have D := Lib.hid hD
      clear hD
      by_cases hik : i < k
      · have hiz : (i : Int) < (k : Int) := by omega
        have hi5 : i < 5 := by omega
        have hsz : s < wr.heap.size := D.out.src.lt
        go_wp2_with fail
        have hb4 : Below wr.heap.size wr (wr.alloc (.cells (cI [a, b]).toArray 2)) := (Below.refl _ _).alloc (Nat.le_refl _) _
        have D4 := D.out.next (D.out.src.below hb4) (grown_below hb4 _)
        refine (pick_any wr.heap.size 2 2 [a, b] _ D4.src (OwI.lit wr [a, b] rfl (by decide) hsz) rfl (by decide) (by decide)).mono ?_
        rintro e w5 ⟨b, rfl, _, hS5, hg5⟩
        have D5 := Lib.hid (D4.next hS5 hg5)
        clear hS5 hg5 D4 hb4
        have c3 := D5.out.own.at_ hi5
        have z1 := D5.out.own.frozen (1 + i)
        go_wp2_with fail
        go_roundw
        case rel => exact ⟨i + 1, _, by go_num, Nat.succ_le_of_lt hik, D5.out.set hi5 b⟩
        case measure => simp [intOf]; omega
      · have hiz : ¬ ((i : Int) < (k : Int)) := by omega
        obtain ⟨d0, d1, d2, d3, d4, d5⟩ := D.out.own.six
        obtain ⟨e0, e1, e2, e3, e4, e5⟩ := D.out.res.six
        obtain ⟨z0, z1, z2, z3, z4, z5⟩ := D.out.res.fr6
        go_wp2_with fail
        refine bodyPost_ret (v := .agg (mc m)) ?_ rfl (D.out.fin m D.out.pts)
        simp [results, Tryz.results77, go_sem, *]
  obtain rfl | rfl | rfl : r = 3 ∨ r = 4 ∨ r = 5 := by omega
  all_goals
    go_wp2_with fail
    go_loopw [11] (fun t wr => ∃ (i : Nat) (m : M), t = .int .i64 i ∧ i ≤ k ∧ DM w s A n c zs k m wr) (fun t _ => k - (intOf t).toNat)
    case atStart => exact ⟨0, _, rfl, Nat.zero_le _, D1.out⟩
    case round =>
      clear D1
      obtain ⟨i, m, rfl, hi, hD⟩ := hrel
      have D := Lib.hid hD
      clear hD
      by_cases hik : i < k
      · have hiz : (i : Int) < (k : Int) := by omega
        have hi5 : i < 5 := by omega
        go_wp2_with fail
        refine (next_any k _ D.out.src).mono ?_
        rintro e w5 ⟨b, rfl, hr, _, hS5, hg5⟩
        have D5 := Lib.hid (D.out.next hS5 hg5)
        clear hr hS5 hg5
        have c3 := D5.out.own.at_ hi5
        have z1 := D5.out.own.frozen (1 + i)
        go_wp2_with fail
        go_roundw
        case rel => exact ⟨i + 1, _, by go_num, Nat.succ_le_of_lt hik, D5.out.set hi5 b⟩
        case measure => simp [intOf]; omega
      · have hiz : ¬ ((i : Int) < (k : Int)) := by omega
        obtain ⟨d0, d1, d2, d3, d4, d5⟩ := D.out.own.six
        obtain ⟨e0, e1, e2, e3, e4, e5⟩ := D.out.res.six
        obtain ⟨z0, z1, z2, z3, z4, z5⟩ := D.out.res.fr6
        go_wp2_with fail
        refine bodyPost_ret (v := .agg (mc m)) ?_ rfl (D.out.fin m D.out.pts)
        simp [results, Tryz.results77, go_sem, *]
theorem draw_any {s : Nat} {A : Option Addr} {n c : Nat} {zs : List Int} (w : World) (hS : Src w s A n c zs) :
    Calls Tryz.prog 65 #[.pointer (some ⟨s, 0, none⟩)] w (RetMp s A n c zs (fun m => ∃ k : Nat, 1 ≤ k ∧ k ≤ 5 ∧ m.p = k) w) := by
  have HS := Lib.hid hS
  have hsl := hS.lt
  clear hS
  go_enter Tryz.func65, Tryz.ntmps65
  go_wp2_with fail
  have hb0 : Below w.heap.size w (w.alloc (.cells (mc M0) 31)) := (Below.refl _ _).alloc (Nat.le_refl _) _
  have hb1 : Below w.heap.size w ((w.alloc (.cells (mc M0) 31)).alloc (.cells (cI [1, 2, 3, 3, 4, 4, 5, 5]).toArray 2)) := hb0.alloc (by simp) _
  have hbl : Blk ((w.alloc (.cells (mc M0) 31)).alloc (.cells (cI [1, 2, 3, 3, 4, 4, 5, 5]).toArray 2)) w.heap.size 31 (mc M0) := (Blk.new w _ _).alloc _
  have ho := OwI.lit (e := 2) (B := s + 1) (w.alloc (.cells (mc M0) 31)) [1, 2, 3, 3, 4, 4, 5, 5] (n := 8) rfl (by decide) (by simp; omega)
  rw [show (w.alloc (.cells (mc M0) 31)).heap.size = w.heap.size + 1 by simp] at ho
  refine (pick_any (w.heap.size + 1) 8 8 [1, 2, 3, 3, 4, 4, 5, 5] _ (HS.out.below hb1) ho rfl (by decide) (by decide)).mono ?_
  rintro e w2 ⟨r, rfl, hr, hS2, hg2⟩
  obtain ⟨k, rfl, hk1, hk5⟩ : ∃ k : Nat, r = k ∧ 1 ≤ k ∧ k ≤ 5 := by
    simp only [List.mem_cons, List.not_mem_nil, or_false] at hr
    exact ⟨r.toNat, by omega, by omega, by omega⟩
  have Hg := Lib.hid (grown_trans (grown_below hb1 _) hg2)
  have Hb2 := Lib.hid (hbl.grown hg2 (fun e => by injection e with e; omega))
  have HS2 := Lib.hid hS2
  clear hr hS2 hg2 hb0 hb1 hbl ho
  go_wp2_with fail
  refine (drawOf_any k hk1 hk5 w2 HS2.out).mono ?_
  rintro e w3 ⟨m, rfl, hp, hS3, hg3⟩
  have Hb3 := Hb2.out.grown hg3 (fun e => by injection e with e; omega)
  obtain ⟨e0, e1, e2, e3, e4, e5⟩ := Hb3.six
  obtain ⟨z0, z1, z2, z3, z4, z5⟩ := Hb3.fr6
  have HS3 := Lib.hid hS3
  have Hg3 := Lib.hid (grown_trans Hg.out hg3)
  have Hp := Lib.hid hp
  clear hS3 hg3 Hb3 hp
  go_wp2_with fail
  refine bodyPost_ret (v := .agg (mc m)) ?_ rfl ⟨m, rfl, ⟨k, hk1, hk5, Hp.out⟩, HS3.out.st6 hsl m, grown_st6 Hg3.out (Nat.le_refl _) m⟩
  simp [results, Tryz.results65, go_sem, *]
end Go.Proofs.YtchjegojcpbfpaaGreat
