/- Contracts of the search for an idempotent in a list, and of GroupWith on both sides; the lists are as each theorem states. -/
import Derived.Test.YtneonacdjmfaoaaJ6
namespace Go.Proofs.Ytneonacdjmfaoaa
open Go.RowKit
set_option maxRecDepth 100000
set_option linter.unusedSimpArgs false
set_option linter.unusedVariables false

theorem any_gm {ms : List M} {k : Nat} (hk : k < ms.length) (h : isIdem (gm ms k) = true) : ms.any isIdem = true := List.any_eq_true.2 ⟨_, gm_mem hk, h⟩
theorem none_gm {ms : List M} (h : ∀ j, j < ms.length → isIdem (gm ms j) = false) : ms.any isIdem = false := by
  rw [Bool.eq_false_iff]
  intro e
  obtain ⟨x, hx, hi⟩ := List.any_eq_true.1 e
  obtain ⟨j, hj, rfl⟩ := mem_gm hx
  rw [h j hj] at hi
  cases hi

theorem indexIdem_any (A : Option Addr) (n c : Nat) (ms : List M) (w : World) (hx : RdM w w.heap.size A ms) (hn : ms.length = n) (hb : n < 1073741824) (hv : ∀ f ∈ ms, Valid f) :
    Calls Try.prog 95 #[.slice A n c, .func (.func 61) #[] #[]] w fun e w' => (∃ r : Int, e = .returned (I r) ∧ decide (0 ≤ r) = ms.any isIdem) ∧ Below w.heap.size w w' := by
  have eg : ∀ args w, (callFunc 61 args).run Try.prog w = .ok (.enter 61 args) w := enters_of Try.func61 (by kernel_rfl) rfl
  have Hx := Lib.hid hx
  have Hn := Lib.hid hn
  have HV := Lib.hid hv
  clear hx hn hv
  go_enter Try.func95, Try.ntmps95
  go_wp2_with fail
  go_loopw [8] (fun i wr => ∃ k : Nat, k ≤ n ∧ i = .int .i64 k ∧ Hid (∀ j, j < k → isIdem (gm ms j) = false) ∧ Below w.heap.size w wr) (fun i _ => n - (intOf i).toNat)
  case atStart => exact ⟨0, by omega, rfl, fun j hj => absurd hj (by omega), Below.refl _ _⟩
  case round =>
    obtain ⟨k, hk, rfl, hg, hbel⟩ := hrel
    have Hb := Lib.hid hbel
    have hsz := hbel.size
    clear hbel
    by_cases hlt : k < n
    · have hltz : (k : Int) < (n : Int) := by omega
      obtain ⟨b, off, rfl, hbb, h6⟩ := RdM.at_ (Rd.below Hx.out Hb.out) (k := k) (by rw [Hn.out]; exact hlt)
      have hvf : Valid (gm ms k) := HV.out _ (gm_mem (by rw [Hn.out]; exact hlt))
      obtain ⟨f, hf⟩ : ∃ f, f = gm ms k := ⟨_, rfl⟩
      rw [← hf] at h6 hvf
      have Hf := Lib.hid hf
      obtain ⟨x0, x1, x2, x3, x4, x5⟩ := h6
      clear hf
      go_wp2_with fail
      refine (isIdem_any f wr hvf).mono ?_
      rintro e w2 ⟨rfl, hb2⟩
      have Hb2 := Lib.hid (Hb.out.trans (hb2.mono hsz))
      clear hb2 x0 x1 x2 x3 x4 x5
      cases hp : isIdem f
      · have Hr : Hid (∀ j, j < k + 1 → isIdem (gm ms j) = false) := by
          intro j hj
          by_cases e : j = k
          · subst e; rw [← Hf.out]; exact hp
          · exact hg.out j (by omega)
        clear hp
        go_wp2_with fail
        go_roundw
        case rel => exact ⟨k + 1, by omega, by go_num, Hr.out, Hb2.out⟩
        case measure => simp [intOf]; omega
      · have Hr : Hid (ms.any isIdem = true) := any_gm (by rw [Hn.out]; exact hlt) (by rw [← Hf.out]; exact hp)
        clear hp
        go_wp2_with fail
        go_ret
        exact ⟨⟨k, rfl, by rw [Hr.out]; exact decide_eq_true (by omega)⟩, Hb2.out⟩
    · have hltz : ¬ ((k : Int) < (n : Int)) := by omega
      have Hr : Hid (ms.any isIdem = false) := none_gm fun j hj => hg.out j (by have := Hn.out; omega)
      go_wp2_with fail
      go_ret
      exact ⟨⟨-1, rfl, by rw [Hr.out]; rfl⟩, Hb.out⟩

theorem hasIdem_any (A : Option Addr) (n c : Nat) (ms : List M) (w : World) (hx : RdM w w.heap.size A ms) (hn : ms.length = n) (hb : n < 1073741824) (hv : ∀ f ∈ ms, Valid f) :
    Calls Try.prog 60 #[.slice A n c, .func (.func 61) #[] #[]] w fun e w' => e = .returned (.bool (ms.any isIdem)) ∧ Below w.heap.size w w' := by
  have Hx := Lib.hid hx
  have Hn := Lib.hid hn
  have HV := Lib.hid hv
  clear hx hn hv
  go_enter Try.func60, Try.ntmps60
  go_wp2_with fail
  refine (indexIdem_any A n c ms w Hx.out Hn.out hb HV.out).mono ?_
  rintro e w2 ⟨⟨r, rfl, hr⟩, hb2⟩
  have Hb := Lib.hid hb2
  have HR := Lib.hid hr
  clear hb2 hr
  go_wp2_with fail
  go_ret
  exact ⟨by rw [← HR.out] <;> rfl, Hb.out⟩

/-- the elements of a monoid that have a property, and whether one is idempotent -/
def gwL (E : List M) (p : Nat → Bool) (q : Nat) : List M := ((List.range q).filter p).map (gm E)
def gwG (E : List M) (p : Nat → Bool) (q : Nat) : Bool := (gwL E p q).any isIdem
theorem gwL_step (E : List M) (p : Nat → Bool) (q : Nat) : gwL E p (q + 1) = gwL E p q ++ (if p q then [gm E q] else []) := by
  unfold gwL
  rw [List.range_succ, List.filter_append, List.map_append]
  cases h : p q <;> simp [h]
theorem gwL_off {E : List M} {p : Nat → Bool} {q : Nat} (h : p q = false) : gwL E p (q + 1) = gwL E p q := by rw [gwL_step, h]; simp
theorem gwL_on {E : List M} {p : Nat → Bool} {q : Nat} (h : p q = true) : gwL E p (q + 1) = gwL E p q ++ [gm E q] := by rw [gwL_step, h]; rfl
theorem gwG_off {E : List M} {p : Nat → Bool} {q : Nat} (h : p q = false) : gwG E p (q + 1) = gwG E p q := by unfold gwG; rw [gwL_off h]
theorem gwG_on {E : List M} {p : Nat → Bool} {q : Nat} (h : p q = true) : gwG E p (q + 1) = (gwG E p q || isIdem (gm E q)) := by unfold gwG; rw [gwL_on h, List.any_append]; simp
theorem gwL_len (E : List M) (p : Nat → Bool) (q : Nat) : (gwL E p q).length ≤ q := by
  have h2 := List.length_filter_le p (List.range q)
  unfold gwL
  simp at h2 ⊢
  omega
theorem gwL_ok {E : List M} {p : Nat → Bool} {q : Nat} (hq : q ≤ E.length) : ∀ f ∈ gwL E p q, f ∈ E := fun f hf => by
  unfold gwL at hf
  obtain ⟨i, hi, rfl⟩ := List.mem_map.1 hf
  have := List.mem_range.1 (List.mem_filter.1 hi).1
  exact gm_mem (by omega)
def hP (E : List M) (x : Nat) (i : Nat) : Bool := sameK E 2 i x
def gwE (ms : List M) (f : M) : List M := gwL (elR ms [f]) (hP (elR ms [f]) (ix (elR ms [f]) f)) (elR ms [f]).length
def gwC (ms : List M) (f : M) : Int := if monC ms [f] = 0 then (if (gwE ms f).any isIdem then 0 else 5) else monC ms [f]
def gwR (ms : List M) (f : M) : List M := if gwC ms f = 0 then gwE ms f else []
theorem gwC_bad {ms : List M} {f : M} (h : monC ms [f] ≠ 0) : gwC ms f = monC ms [f] := if_neg h
theorem gwC_no {ms : List M} {f : M} (h : monC ms [f] = 0) (hi : (gwE ms f).any isIdem = false) : gwC ms f = 5 := by unfold gwC; rw [if_pos h, hi]; rfl
theorem gwC_yes {ms : List M} {f : M} (h : monC ms [f] = 0) (hi : (gwE ms f).any isIdem = true) : gwC ms f = 0 := by unfold gwC; rw [if_pos h, hi]; rfl
theorem gwR_bad {ms : List M} {f : M} (h : gwC ms f ≠ 0) : gwR ms f = [] := if_neg h
theorem gwR_len (ms : List M) (f : M) : (gwR ms f).length ≤ 300 := by
  unfold gwR
  split
  · refine Nat.le_trans (gwL_len _ _ _) ?_
    rename_i h
    unfold gwC at h
    split at h
    · rename_i h1
      obtain ⟨E, ps, hE, _⟩ := monC_el h1
      rw [hE.r]; exact hE.len
    · rename_i h1; exact absurd h h1
  · simp

set_option maxHeartbeats 2000000 in
theorem SpecGW_any (A : Option Addr) (n c : Nat) (ms : List M) (f : M) (w : World) (hx : RdM w w.heap.size A ms) (hn : ms.length = n) (hb : n < 1073741824) :
    Calls Try.prog 24 #[.slice A n c, .agg (mc f)] w (RetS (gwR ms f) (gwC ms f) w) := by
  obtain ⟨wb, hwb⟩ : ∃ wb, wb = (w.alloc (.cells (mc f) 39)).alloc (.cells (mc f) 39) := ⟨_, rfl⟩
  have hbb : Below w.heap.size w wb := by rw [hwb]; exact ((Below.refl _ _).alloc (Nat.le_refl _) _).alloc (by simp) _
  have h7 : RdM wb wb.heap.size (some ⟨w.heap.size + 1, 0, none⟩) [f] := by rw [hwb]; exact rd_one (Blk.six (Blk.new' _ _ _ (by simp)))
  have Hx := Lib.hid (Rd.more (Rd.below hx hbb) hbb.size)
  have Hn := Lib.hid hn
  have H7 := Lib.hid h7
  have Hbb := Lib.hid hbb
  have Hwb := Lib.hid hwb
  clear hx hn h7 hbb hwb
  by_cases hm : monC ms [f] = 0
  · obtain ⟨E, ps, hE, hin⟩ := monC_el hm
    have hfE := hin f (by simp)
    have hG : gR ms [f] = E := by unfold gR; rw [if_pos hm, hE.r]
    have hNN : gN ms [f] = [(ix E f : Int)] := by unfold gN; rw [if_pos hm, hE.r]; rfl
    have hlen := hE.len
    have hn6 := hE.n6
    obtain ⟨x, hxx⟩ : ∃ x, x = ix E f := ⟨_, rfl⟩
    have hxl : x < E.length := by rw [hxx]; exact ix_lt hfE
    rw [← hxx] at hNN
    obtain ⟨p, hp⟩ : ∃ p, p = hP E x := ⟨_, rfl⟩
    have hgE : gwE ms f = gwL E p E.length := by unfold gwE; rw [hE.r, ← hxx, hp]
    obtain ⟨N, hN⟩ : ∃ N, E.length = N := ⟨_, rfl⟩
    have hpv : ∀ i, i < N → ∀ a b, a = gi (clsK E 2) i → b = gi (clsK E 2) x → (a == b) = p i := fun i hi a b ha hb => by
      rw [Bool.eq_iff_iff, beq_iff_eq, ha, hb, hp]
      exact clsK_eq hE.mnd 2 (by rw [hN]; exact hi) hxl
    rw [hN] at hlen hxl hgE
    have HG := Lib.hid hG
    have HNN := Lib.hid hNN
    have HN := Lib.hid hN
    have HE := Lib.hid hE
    have Hm := Lib.hid hm
    have HgE := Lib.hid hgE
    have Hpv := Lib.hid hpv
    have hxz : (x : Int) < (N : Int) := by omega
    have hn6' : n ≤ 6 := by rw [← Hn.out]; exact hn6
    have HEv : Hid (∀ i, i < N → Valid (gm E i)) := fun i hi => (HE.out.mnd.ok _ (gm_mem (by rw [HN.out]; exact hi))).1
    clear hE hin hG hNN hxx hp hgE hpv hN hm hfE hn6
    go_enter Try.func24, Try.ntmps24
    go_wp2_with fail
    rw [← Hwb.out]
    refine (l03Given_any A (some ⟨w.heap.size + 1, 0, none⟩) n c 1 1 ms [f] wb Hx.out H7.out Hn.out rfl hb (by decide)).mono ?_
    rintro e w2 ⟨A', c', v, rfl, hr, hv, hb2⟩
    rw [HG.out] at hr ⊢
    rw [HNN.out] at hv
    rw [Hm.out, HN.out]
    obtain ⟨Av, cv, hvv, hrv⟩ := hv.form
    subst hvv
    obtain ⟨bv, ov, e, hbv, _⟩ := RdI.at_ hrv (k := 0) (by simp)
    subst e
    have C0 : Hid (w2.cell? ⟨bv, ov, none⟩ = some (I x)) := RdI.at0 hrv (k := 0) (by simp)
    have Hr := Lib.hid hr
    have Hb2 := Lib.hid hb2
    have hz2 := hb2.size
    simp only [List.length_cons, List.length_nil, Nat.zero_add]
    clear hr hv hrv hb2
    go_wp2_with fail
    refine (l03Kind_any A' N c' E A n c ms 2 rfl w2 Hr.out HN.out (Rd.more (Rd.below Hx.out Hb2.out) hz2) Hn.out hlen hn6' HE.out.mnd HE.out.mem HE.out.G).mono ?_
    rintro e w3 ⟨v, rfl, ho, hb3⟩
    obtain ⟨A3, c3, hv3, hr3⟩ := ho.form
    rw [clsK_length, HN.out] at hv3
    subst hv3
    obtain ⟨b3, o3, e, hb3l, _⟩ := RdI.at_ hr3 (k := x) (by rw [clsK_length, HN.out]; exact hxl)
    subst e
    have Hr3 := Lib.hid hr3
    have hbv3 : bv < w3.heap.size := Nat.lt_of_lt_of_le hbv hb3.size
    have C0' : Hid (w3.cell? ⟨bv, ov, none⟩ = some (I x)) := (hb3.cell (p := ⟨bv, ov, none⟩) hbv).trans C0.out
    have Hre := Lib.hid (Rd.more (Rd.below Hr.out hb3) hb3.size)
    have Hb3 := Lib.hid (Hb2.out.trans (hb3.mono hz2))
    have hz3 := Hb3.out.size
    clear ho hr3 hb3 Hr C0
    go_wp2_with fail
    go_loopw [10, 11, 12] (fun v g k wr => ∃ q : Nat, k = .int .i64 q ∧ q ≤ N ∧ g = .bool (gwG E p q) ∧ Below w3.heap.size w3 wr ∧ OwM 39 wr w3.heap.size v (gwL E p q)) (fun _ _ k _ => N - (intOf k).toNat)
    case atStart => exact ⟨0, rfl, by omega, rfl, (Below.refl _ _).alloc (Nat.le_refl _) _, OwM.made (Nat.le_refl _)⟩
    case round =>
      obtain ⟨q, rfl, hq, rfl, hb', ho⟩ := hrel
      have hql := gwL_len E p q
      obtain ⟨A1, c1, hv, _⟩ := ho.form
      obtain ⟨K, hK⟩ : ∃ K, (gwL E p q).length = K := ⟨_, rfl⟩
      rw [hK] at hv hql
      subst hv
      have HK := Lib.hid hK
      have Hbr := Lib.hid hb'
      have Ho := Lib.hid ho
      have hszr := hb'.size
      clear hb' ho hK
      by_cases hqN : q < N
      · have hqz : (q : Int) < (N : Int) := by omega
        obtain ⟨a, ha⟩ : ∃ a, a = gi (clsK E 2) q := ⟨_, rfl⟩
        obtain ⟨b, hb5⟩ : ∃ b, b = gi (clsK E 2) x := ⟨_, rfl⟩
        obtain ⟨t, ht⟩ : ∃ t, t = p q := ⟨_, rfl⟩
        have hab : (a == b) = t := by rw [ht]; exact Hpv.out q hqN a b ha hb5
        have HF4 : Hid (∀ w', Below wr.heap.size wr w' → w'.cell? ⟨bv, ov, none⟩ = some (I x) ∧ w'.cell? ⟨b3, o3 + q, none⟩ = some (I a) ∧ w'.cell? ⟨b3, o3 + x, none⟩ = some (I b)) := fun w' hS => by
          have hB := Hbr.out.trans (hS.mono hszr)
          rw [ha, hb5]
          exact ⟨(hB.cell (p := ⟨bv, ov, none⟩) hbv3).trans C0'.out, RdI.at0 (Rd.below Hr3.out hB) (by rw [clsK_length, HN.out]; exact hqN), RdI.at0 (Rd.below Hr3.out hB) (by rw [clsK_length, HN.out]; exact hxl)⟩
        clear ha hb5
        go_wp2_with fail
        refine wp_region_same [] rfl (by kernel_rfl) (by kernel_rfl) (by kernel_rfl) (fun w' => Below wr.heap.size wr w') _
          [.slice (some ⟨b3, o3, none⟩) N c3, I q, .pointer (some ⟨b3, o3 + q, none⟩), I a, .slice (some ⟨b3, o3, none⟩) N c3, .slice (some ⟨bv, ov, none⟩) 1 cv, .pointer (some ⟨bv, ov, none⟩), I x, .pointer (some ⟨b3, o3 + x, none⟩), I b, .bool t]
          (by simp only [putAll, List.setIfInBounds_toArray, List.set_cons_succ, List.set_cons_zero]; rfl) (Below.refl _ _).drew ?hop ?hQ
        case hop =>
          refine FixBL.toL (fun w' w'' hS hb => hS.trans (hb.mono hS.size)) _ _ ?_
          refine ⟨.inr ?_, .inr ?_, .inr ?_, .inr ?_, .inr ?_, .inr ?_, .inr ?_, .inr ?_, .inr ?_, .inr ?_, .inr ?_, trivial⟩
          · (with_reducible refine FixB.of ?_ ?_; rfl; intro w' hS; obtain ⟨s0, s1, s2⟩ := HF4.out _ hS; clear hS; unfold Oper.wp; go_simp; first | done | exact Below.refl _ _)
          · (with_reducible refine FixB.of ?_ ?_; rfl; intro w' hS; obtain ⟨s0, s1, s2⟩ := HF4.out _ hS; clear hS; unfold Oper.wp; go_simp; first | done | exact Below.refl _ _)
          · (with_reducible refine FixB.of ?_ ?_; rfl; intro w' hS; obtain ⟨s0, s1, s2⟩ := HF4.out _ hS; clear hS; unfold Oper.wp; go_simp; first | done | exact Below.refl _ _)
          · (with_reducible refine FixB.of ?_ ?_; rfl; intro w' hS; obtain ⟨s0, s1, s2⟩ := HF4.out _ hS; clear hS; unfold Oper.wp; go_simp; first | done | exact Below.refl _ _)
          · (with_reducible refine FixB.of ?_ ?_; rfl; intro w' hS; obtain ⟨s0, s1, s2⟩ := HF4.out _ hS; clear hS; unfold Oper.wp; go_simp; first | done | exact Below.refl _ _)
          · (with_reducible refine FixB.of ?_ ?_; rfl; intro w' hS; obtain ⟨s0, s1, s2⟩ := HF4.out _ hS; clear hS; unfold Oper.wp; go_simp; first | done | exact Below.refl _ _)
          · (with_reducible refine FixB.of ?_ ?_; rfl; intro w' hS; obtain ⟨s0, s1, s2⟩ := HF4.out _ hS; clear hS; unfold Oper.wp; go_simp; first | done | exact Below.refl _ _)
          · (with_reducible refine FixB.of ?_ ?_; rfl; intro w' hS; obtain ⟨s0, s1, s2⟩ := HF4.out _ hS; clear hS; unfold Oper.wp; go_simp; first | done | exact Below.refl _ _)
          · (with_reducible refine FixB.of ?_ ?_; rfl; intro w' hS; obtain ⟨s0, s1, s2⟩ := HF4.out _ hS; clear hS; unfold Oper.wp; go_simp; first | done | exact Below.refl _ _)
          · (with_reducible refine FixB.of ?_ ?_; rfl; intro w' hS; obtain ⟨s0, s1, s2⟩ := HF4.out _ hS; clear hS; unfold Oper.wp; go_simp; first | done | exact Below.refl _ _)
          · (with_reducible refine FixB.of ?_ ?_; rfl; intro w' hS; obtain ⟨s0, s1, s2⟩ := HF4.out _ hS; clear hS; unfold Oper.wp; go_simp; first | done | exact Below.refl _ _)
        case hQ =>
        intro wc hS _
        have HB4 := Lib.hid hS
        clear hS
        have Hb4 := Lib.hid (Hbr.out.trans (HB4.out.mono hszr))
        have Ho4 := Lib.hid (Ho.out.below HB4.out (Nat.le_refl _))
        have hz4 := Hb4.out.size
        clear HB4 HF4 hab Ho Hbr
        cases t
        · have HL : Hid (gwL E p (q + 1) = gwL E p q) := gwL_off ht.symm
          have HG2 : Hid (gwG E p (q + 1) = gwG E p q) := gwG_off ht.symm
          clear ht
          go_wp2_with fail
          go_roundw
          case rel => exact ⟨q + 1, by go_num, by omega, by rw [HG2.out], Hb4.out, by rw [HL.out]; exact Ho4.out⟩
          case measure => simp [intOf]; omega
        · obtain ⟨z, hzz⟩ : ∃ z, z = gm E q := ⟨_, rfl⟩
          have HL : Hid (gwL E p (q + 1) = gwL E p q ++ [z]) := by show _ = _; rw [gwL_on ht.symm, hzz]
          have HG2 : Hid (gwG E p (q + 1) = (gwG E p q || isIdem z)) := by show _ = _; rw [gwG_on ht.symm, hzz]
          have hvz : Valid z := by rw [hzz]; exact HEv.out q hqN
          obtain ⟨b6, o6, rfl, hb6, h6⟩ := RdM.at_ (Rd.below Hre.out Hb4.out) (k := q) (by rw [HN.out]; exact hqN)
          rw [← hzz] at h6
          have Hzz := Lib.hid hzz
          obtain ⟨x0, x1, x2, x3, x4, x5⟩ := h6
          clear ht hzz
          cases hgq : gwG E p q
          · rw [hgq] at HG2
            go_wp2_with (at_builtin; refine wpList_pushM rfl (.tmp 45) (.tmp 50) rfl w3.heap.size (.slice A1 K c1) (gwL E p q) rfl (Ho4.out.alloc _) K HK.out wc.heap.size 1 z rfl (Blk.six (Blk.new _ _ _)) (by omega) (by simp; omega) (wc.heap.size + 1) (by simp) ?_; intro g' cap w5 ho' hgr hg' hlt'; have Hb5 := Lib.hid ((Ho4.out.alloc (.cells (mc z) 39)).bel (Hb4.out.alloc (by omega) _) hgr (Nat.le_refl _) (by simp; omega)); have Ho5 := Lib.hid ho'; have s6 := (RdM.six (Rd.below Hre.out Hb5.out) (k := q) (by rw [HN.out]; exact hqN)).1; rw [← Hzz.out] at s6; obtain ⟨y0, y1, y2, y3, y4, y5⟩ := s6; clear ho' hgr hg' hlt' x0 x1 x2 x3 x4 x5)
            refine (l01Idem_any z w5 hvz).mono ?_
            rintro e w6 ⟨rfl, hb6'⟩
            have Hb6 := Lib.hid (Hb5.out.trans (hb6'.mono Hb5.out.size))
            have Ho6 := Lib.hid (Ho5.out.below hb6' (Nat.le_refl _))
            clear hb6' y0 y1 y2 y3 y4 y5
            go_wp2_with fail
            refine ⟨⟨q + 1, by go_num, by omega, by rw [HG2.out, Bool.false_or], Hb6.out, by rw [HL.out]; exact Ho6.out⟩, by simp [intOf]; omega⟩
          · rw [hgq] at HG2
            go_wp2_with (at_builtin; refine wpList_pushM rfl (.tmp 45) (.tmp 50) rfl w3.heap.size (.slice A1 K c1) (gwL E p q) rfl (Ho4.out.alloc _) K HK.out wc.heap.size 1 z rfl (Blk.six (Blk.new _ _ _)) (by omega) (by simp; omega) (wc.heap.size + 1) (by simp) ?_; intro g' cap w5 ho' hgr hg' hlt'; have Hb5 := Lib.hid ((Ho4.out.alloc (.cells (mc z) 39)).bel (Hb4.out.alloc (by omega) _) hgr (Nat.le_refl _) (by simp; omega)); have Ho5 := Lib.hid ho'; have s6 := (RdM.six (Rd.below Hre.out Hb5.out) (k := q) (by rw [HN.out]; exact hqN)).1; rw [← Hzz.out] at s6; obtain ⟨y0, y1, y2, y3, y4, y5⟩ := s6; clear ho' hgr hg' hlt' x0 x1 x2 x3 x4 x5)
            refine ⟨⟨q + 1, by go_num, by omega, by rw [HG2.out, Bool.true_or], Hb5.out, by rw [HL.out]; exact Ho5.out⟩, by simp [intOf]; omega⟩
      · obtain rfl : q = N := by omega
        have hqz : ¬ ((q : Int) < (q : Int)) := by omega
        have HgE2 : Hid (gwG E p q = (gwE ms f).any isIdem) := by show _ = _; rw [HgE.out]; rfl
        have Hro := Lib.hid Ho.out.rdA
        have Hbe := Lib.hid (Hbb.out.trans ((Hb3.out.trans (Hbr.out.mono hz3)).mono Hbb.out.size))
        cases hgq : gwG E p q
        · rw [hgq] at HgE2
          have hC := gwC_no Hm.out HgE2.out.symm
          have HR := Lib.hid (gwR_bad (ms := ms) (f := f) (by rw [hC]; decide))
          have HC := Lib.hid hC
          clear hC
          go_wp2_with fail
          go_ret2
          exact .mk none 0 (by rw [HR.out, HC.out] <;> rfl) (by rw [HR.out]; exact Rd.nil_) Hbe.out
        · rw [hgq] at HgE2
          have hC := gwC_yes Hm.out HgE2.out.symm
          have HR : Hid (gwR ms f = gwL E p q) := by show _ = _; unfold gwR; rw [if_pos hC, HgE.out]
          have HC := Lib.hid hC
          clear hC
          go_wp2_with fail
          go_ret2
          exact .mk A1 c1 (by rw [HR.out, HC.out, HK.out] <;> rfl) (by rw [HR.out]; exact Hro.out) Hbe.out
  · have hC := gwC_bad hm
    have hR := gwR_bad (ms := ms) (f := f) (by rw [hC]; exact hm)
    have hne : (monC ms [f] != 0) = true := by simpa using hm
    have HR := Lib.hid hR
    have HC := Lib.hid hC
    clear hR hC hm
    go_enter Try.func24, Try.ntmps24
    go_wp2_with fail
    rw [← Hwb.out]
    refine (l03Given_any A (some ⟨w.heap.size + 1, 0, none⟩) n c 1 1 ms [f] wb Hx.out H7.out Hn.out rfl hb (by decide)).mono ?_
    rintro e w2 ⟨A', c', v, rfl, hr, hv, hb2⟩
    obtain ⟨Av, cv, hvv, _⟩ := hv.form
    subst hvv
    have Hbe := Lib.hid (Hbb.out.trans (hb2.mono Hbb.out.size))
    clear hr hv hb2
    go_wp2_with fail
    go_ret2
    exact .mk none 0 (by rw [HR.out, HC.out] <;> rfl) (by rw [HR.out]; exact Rd.nil_) Hbe.out
end Go.Proofs.Ytneonacdjmfaoaa
