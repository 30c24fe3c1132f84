/- Contracts of IdempotentsOf, ZeroOf and IsRegularIn of the reference; the lists are as each theorem states. -/
import Derived.Test.YtknknljkmkfmoaaNF
namespace Go.Proofs.Ytknknljkmkfmoaa
open Go.RowKit
set_option maxRecDepth 100000
set_option linter.unusedSimpArgs false

theorem SpecIdem_any (A : Option Addr) (n c : Nat) (ms : List M) (w : World) (hx : RdM w w.heap.size A ms) (hn : ms.length = n) (hb : n < 1073741824) :
    Calls Try.prog 48 #[.slice A n c] w (RetS (thatR idemB ms) (elC ms []) w) := by
  have Hx := Lib.hid hx
  have Hn := Lib.hid hn
  clear hx hn
  by_cases hc : elC ms [] = 0
  · obtain ⟨E, ps, hE⟩ := elC_el hc
    have hR := that_idem (ms := ms)
    rw [hE.r] at hR
    have hlen := hE.len
    have hpos := hE.pos
    have HEv : Hid (∀ i, i < E.length → Valid (gm E i)) := fun i hi => (hE.mnd.ok _ (gm_mem hi)).1
    have HR := Lib.hid hR
    have HE := Lib.hid hE
    have Hc := Lib.hid hc
    clear hE hc hR
    go_enter Try.func48, Try.ntmps48
    go_wp2_with fail
    refine (l02Elements_any A none n c 0 0 ms [] _ Hx.out Rd.nil_ Hn.out rfl hb (by decide)).mono ?_
    rintro e w1 ⟨A', c', rfl, hr, hb1⟩
    rw [HE.out.r] at hr ⊢
    rw [Hc.out]
    obtain ⟨b, off, rfl, hbb, _⟩ := RdM.at_ hr hpos
    have Hr := Lib.hid hr
    have Hb1 := Lib.hid hb1
    have hz1 := hb1.size
    obtain ⟨N, hN⟩ : ∃ N, E.length = N := ⟨_, rfl⟩
    rw [hN] at hlen hpos HEv ⊢
    have HN := Lib.hid hN
    clear hr hb1 hN
    go_wp2_with fail
    go_loopw [6, 7] (fun v i wr => ∃ q : Nat, i = .int .i64 q ∧ q ≤ N ∧ Below w1.heap.size w1 wr ∧ OwM 31 wr w1.heap.size v ((E.take q).filter isIdem)) (fun _ i _ => N - (intOf i).toNat)
    case atStart => exact ⟨0, rfl, by omega, (Below.refl _ _).alloc (Nat.le_refl _) _, by simpa using OwM.made (Nat.le_refl _)⟩
    case round =>
      obtain ⟨q, rfl, hq, hb, ho⟩ := hrel
      obtain ⟨L, hL⟩ : ∃ L, L = (E.take q).filter isIdem := ⟨_, rfl⟩
      rw [← hL] at ho
      have hLl : L.length ≤ 300 := by rw [hL]; have := filter_len E isIdem q; have := HN.out; omega
      have HL := Lib.hid hL
      obtain ⟨A1, c1, hv, _⟩ := ho.form
      obtain ⟨k1, hk1⟩ : ∃ k1, L.length = k1 := ⟨_, rfl⟩
      rw [hk1] at hv hLl
      subst hv
      have Hk1 := Lib.hid hk1
      have Hb := Lib.hid hb
      have Ho := Lib.hid ho
      clear hb ho hL hk1
      by_cases hqN : q < N
      · have hqi : (q : Int) < (N : Int) := by omega
        have hv := HEv.out q hqN
        obtain ⟨z, hzz⟩ : ∃ z, z = gm E q := ⟨_, rfl⟩
        have H6 := (RdM.six (Rd.more (Rd.below Hr.out Hb.out) Hb.out.size) (k := q) (by rw [HN.out]; exact hqN)).1
        rw [← hzz] at H6 hv
        have H6h := Lib.hid H6
        have hfs := filter_take (E := E) (P := isIdem) (r := q) (by rw [HN.out]; exact hqN)
        rw [← HL.out, ← hzz] at hfs
        obtain ⟨x0, x1, x2, x3, x4, x5⟩ := H6
        have Hfs := Lib.hid hfs
        clear hzz hfs
        go_wp2_with fail
        refine (l01Idem_any z wr hv).mono ?_
        rintro e w3 ⟨rfl, hb3⟩
        have H63 := H6h.out.below hb3 H6h.out.lt
        have Hb3 := Lib.hid (Hb.out.trans (hb3.mono Hb.out.size))
        have Ho3 := Lib.hid (Ho.out.below hb3 (Nat.le_refl _))
        have hsz := Hb3.out.size
        clear hb3 x0 x1 x2 x3 x4 x5 H6h Ho Hb
        cases hi : isIdem z
        · have hf : (E.take (q + 1)).filter isIdem = L := by rw [Hfs.out, hi]; simp
          have Hf := Lib.hid hf
          clear hf hi H63
          go_wp2_with fail
          go_roundw
          case rel => exact ⟨q + 1, by go_num, by omega, Hb3.out, by rw [Hf.out]; exact Ho3.out⟩
          case measure => simp [intOf]; omega
        · have hf : (E.take (q + 1)).filter isIdem = L ++ [z] := by rw [Hfs.out, hi]; simp
          have Hf := Lib.hid hf
          obtain ⟨x0, x1, x2, x3, x4, x5⟩ := H63
          clear hf hi
          go_wp2_with (at_builtin; refine wpList_pushM rfl (.tmp 28) (.tmp 33) rfl w1.heap.size (.slice A1 k1 c1) L rfl (Ho3.out.alloc _) k1 Hk1.out w3.heap.size 1 z rfl (Blk.six (Blk.new _ _ _)) (by omega) (by simp; omega) (w3.heap.size + 1) (by simp) ?_; intro g' cap w4 ho' hgr hg' hlt'; have Hb4 := Lib.hid (((Ho3.out.alloc (.cells (mc z) 31)).bel (Hb3.out.alloc hsz _) hgr (Nat.le_refl _) (by simp; omega))); have Ho4 := Lib.hid ho'; clear ho' hgr hg' hlt')
          go_roundw
          case rel => exact ⟨q + 1, by go_num, by omega, Hb4.out, by rw [Hf.out]; exact Ho4.out⟩
          case measure => simp [intOf]; omega
      · obtain rfl : q = N := by omega
        have hqi : ¬ ((q : Int) < (q : Int)) := by omega
        have hRL : thatR idemB ms = L := by rw [HR.out, HL.out, List.take_of_length_le (by rw [HN.out]; exact Nat.le_refl _)]
        have HRL := Lib.hid hRL
        have Hb2 := Lib.hid (Hb1.out.trans (Hb.out.mono Hb1.out.size))
        clear hRL
        go_wp2_with fail
        go_ret2
        exact .mk A1 c1 (by rw [HRL.out, Hk1.out, Hc.out] <;> rfl) (by rw [HRL.out]; exact Ho.out.rdA) Hb2.out
  · have HR := Lib.hid (that_bad (p := idemB) hc)
    have hne : (elC ms [] != 0) = true := by simpa using hc
    clear hc
    go_enter Try.func48, Try.ntmps48
    go_wp2_with fail
    refine (l02Elements_any A none n c 0 0 ms [] _ Hx.out Rd.nil_ Hn.out rfl hb (by decide)).mono ?_
    rintro e w1 ⟨A', c', rfl, hr, hb1⟩
    clear hr
    go_wp2
    go_ret2
    exact .mk none 0 (by rw [HR.out] <;> rfl) (by rw [HR.out]; exact Rd.nil_) hb1

/-! ### the zero -/
theorem zero_first {P Q : M → Bool} {E : List M} : (E.filter fun z => P z && Q z) = (E.filter Q).filter P := by rw [List.filter_filter]
theorem asc_filter {E : List M} (h : Asc E) (P : M → Bool) : Asc (E.filter P) := h.sublist List.filter_sublist
theorem head_filter {P : M → Bool} : ∀ {L : List M} {i : Nat}, i < L.length → (∀ j, j < i → P (gm L j) = false) → P (gm L i) = true → ∃ R, L.filter P = gm L i :: R
  | [], i, h, _, _ => by simp at h
  | x :: L, 0, _, _, hp => ⟨L.filter P, by rw [List.filter_cons]; have : P x = true := hp; rw [this]; rfl⟩
  | x :: L, i + 1, h, hj, hp => by
    have h0 : P x = false := hj 0 (by omega)
    rw [gm_cons_succ] at hp ⊢
    obtain ⟨R, hR⟩ := head_filter (P := P) (L := L) (i := i) (by simpa using h) (fun j hj2 => by have := hj (j + 1) (by omega); rwa [gm_cons_succ] at this) hp
    exact ⟨R, by rw [List.filter_cons, h0]; exact hR⟩
theorem none_filter {P : M → Bool} {L : List M} (h : ∀ j, j < L.length → P (gm L j) = false) : L.filter P = [] := by
  rw [List.filter_eq_nil_iff]
  intro x hx
  obtain ⟨i, hi, e⟩ := mem_gm hx
  rw [← e, h i hi]; simp

theorem SpecZero_any (A : Option Addr) (n c : Nat) (ms : List M) (w : World) (hx : RdM w w.heap.size A ms) (hn : ms.length = n) (hb : n < 1073741824) :
    Calls Try.prog 50 #[.slice A n c] w fun e w' => e = .returned (.tuple #[.agg (mc (zeroR ms)), I (zeroC ms)]) ∧ Below w.heap.size w w' := by
  obtain ⟨wb, hwb⟩ : ∃ wb, wb = w.alloc (.cells #[.int .i64 0, .int .i64 0, .int .i64 0, .int .i64 0, .int .i64 0, .int .i64 0] 31) := ⟨_, rfl⟩
  have hbb : Below w.heap.size w wb := by rw [hwb]; exact (Below.refl _ _).alloc (Nat.le_refl _) _
  have HB : Hid (Blk wb w.heap.size 31 (mc M0)) := by show Blk _ _ _ _; rw [hwb]; exact Blk.new w _ _
  have Hx := Lib.hid (Rd.more (Rd.below hx hbb) hbb.size)
  have Hn := Lib.hid hn
  have Hbb := Lib.hid hbb
  have Hwb := Lib.hid hwb
  have hlt := HB.out.lt
  have hz0 := hbb.size
  clear hx hn hbb hwb
  by_cases hc : elC ms [] = 0
  · obtain ⟨E, ps, hE⟩ := elC_el hc
    have hT := that_zero hc
    rw [hE.r, zero_first] at hT
    have HC : Hid (zeroC ms = if thatR zeroB ms = [] then 4 else 0) := by show _ = _; unfold zeroC; rw [if_pos hc]
    have HR : Hid (zeroR ms = (thatR zeroB ms).headD M0) := rfl
    have hlen := hE.len
    have HE := Lib.hid hE
    have HT := Lib.hid hT
    have Hc := Lib.hid hc
    clear hE hc hT
    go_enter Try.func50, Try.ntmps50
    go_wp2_with fail
    rw [← Hwb.out]
    refine (l02Elements_any A none n c 0 0 ms [] wb Hx.out Rd.nil_ Hn.out rfl hb (by decide)).mono ?_
    rintro e w1 ⟨A', c', rfl, hr, hb1⟩
    rw [HE.out.r] at hr ⊢
    rw [Hc.out]
    have Hr := Lib.hid hr
    have Hb1 := Lib.hid hb1
    have hz1 := hb1.size
    obtain ⟨N, hN⟩ : ∃ N, E.length = N := ⟨_, rfl⟩
    rw [hN] at hlen ⊢
    have HN := Lib.hid hN
    clear hr hb1 hN
    go_wp2_with fail
    refine (zerosS_any A' N c' E (gm ms 0).p false w1 Hr.out HN.out HE.out.mnd hlen).mono ?_
    rintro e w2 ⟨v, rfl, ho, hb2⟩
    obtain ⟨A2, c2, rfl, hr2⟩ := ho.form
    obtain ⟨L, hL⟩ : ∃ L, L = E.filter (zeroS E false) := ⟨_, rfl⟩
    rw [← hL] at hr2 HT ⊢
    have hLl : L.length ≤ 300 := by rw [hL]; have := List.length_filter_le (zeroS E false) E; have := HN.out; omega
    have HLE : Hid (∀ x ∈ L, x ∈ E) := fun x hx => by rw [hL] at hx; exact (List.mem_filter.1 hx).1
    obtain ⟨k, hk⟩ : ∃ k, L.length = k := ⟨_, rfl⟩
    rw [hk] at hLl ⊢
    have Hk := Lib.hid hk
    have Hr2 := Lib.hid hr2
    have Hb2 := Lib.hid hb2
    have hz2 := hb2.size
    clear ho hr2 hb2 hL hk
    go_wp2_with fail
    refine (zerosS_any A' N c' E (gm ms 0).p true w2 (Rd.more (Rd.below Hr.out Hb2.out) hz2) HN.out HE.out.mnd hlen).mono ?_
    rintro e w3 ⟨v, rfl, ho, hb3⟩
    obtain ⟨A3, c3, rfl, hr3⟩ := ho.form
    have Hr3 := Lib.hid hr3
    have Hr23 := Lib.hid (Rd.more (Rd.below Hr2.out hb3) hb3.size)
    have HB3 := Lib.hid (Hb1.out.trans ((Hb2.out.trans (hb3.mono hz2)).mono hz1))
    obtain ⟨m, hm⟩ : ∃ m, (E.filter (zeroS E true)).length = m := ⟨_, rfl⟩
    have hml : m ≤ 300 := by have := List.length_filter_le (zeroS E true) E; have := HN.out; omega
    rw [hm]
    have Hm := Lib.hid hm
    have HRA : Hid (Asc (E.filter (zeroS E true))) := asc_filter HE.out.mnd.asc _
    have HRV : Hid (∀ g ∈ E.filter (zeroS E true), Valid g) := fun g hg => (HE.out.mnd.ok g (List.mem_filter.1 hg).1).1
    have hz3 := HB3.out.size
    clear ho hr3 hb3 hm Hr2 Hb2
    go_wp2_with fail
    go_loopw [8] (fun i wr => ∃ q : Nat, i = .int .i64 q ∧ q ≤ k ∧ Below w3.heap.size w3 wr ∧ ∀ j, j < q → zeroS E true (gm L j) = false) (fun i _ => k - (intOf i).toNat)
    case atStart => exact ⟨0, rfl, by omega, Below.refl _ _, fun j hj => by omega⟩
    case round =>
      obtain ⟨q, rfl, hq, hb, hnone⟩ := hrel
      have Hb := Lib.hid hb
      have Hno := Lib.hid hnone
      clear hb hnone
      by_cases hqk : q < k
      · have hqi : (q : Int) < (k : Int) := by omega
        have h0 := Rd.more (Rd.below Hr23.out Hb.out) Hb.out.size
        obtain ⟨b, off, rfl, hbl, h6⟩ := RdM.at_ h0 (k := q) (by rw [Hk.out]; exact hqk)
        obtain ⟨z, hzz⟩ : ∃ z, z = gm L q := ⟨_, rfl⟩
        rw [← hzz] at h6
        have hzE : z ∈ E := HLE.out z (by rw [hzz]; exact gm_mem (by rw [Hk.out]; exact hqk))
        have hvz := (HE.out.mnd.ok z hzE).1
        have H6 := Lib.hid h6
        obtain ⟨x0, x1, x2, x3, x4, x5⟩ := h6
        have HzE := Lib.hid hzE
        have Hzz := Lib.hid hzz
        clear h0 hzz hzE
        go_wp2_with fail
        refine (l02Find_any A3 m c3 (E.filter (zeroS E true)) z wr (Rd.more (Rd.below Hr3.out Hb.out) Hb.out.size) Hm.out (by omega) HRA.out HRV.out hvz).mono ?_
        rintro e w4 ⟨rfl, hb4⟩
        have Hb4 := Lib.hid (Hb.out.trans (hb4.mono Hb.out.size))
        have H64 := Lib.hid (H6.out.below hb4 hbl)
        clear hb4 x0 x1 x2 x3 x4 x5 H6
        by_cases hin : zeroS E true z = true
        · have hmem : z ∈ E.filter (zeroS E true) := List.mem_filter.2 ⟨HzE.out, hin⟩
          obtain ⟨y, hy⟩ : ∃ y : Nat, plOf (E.filter (zeroS E true)) z - 1 = (y : Int) := ⟨ix (E.filter (zeroS E true)) z, by rw [plOf_in hmem]; omega⟩
          have hy0 : (0 : Int) ≤ (y : Int) := by omega
          rw [hy]
          have hz : zeroR ms = z ∧ zeroC ms = 0 := by
            obtain ⟨R, hR⟩ := head_filter (P := zeroS E true) (L := L) (i := q) (by rw [Hk.out]; exact hqk) Hno.out (by rw [← Hzz.out]; exact hin)
            rw [← HT.out, ← Hzz.out] at hR
            rw [HR.out, HC.out, hR]
            exact ⟨rfl, if_neg (by simp)⟩
          have Hz := Lib.hid hz
          have HBk := HB.out.below (HB3.out.trans (Hb4.out.mono hz3)) hlt
          obtain ⟨e0, e1, e2, e3, e4, e5⟩ := HBk.six
          obtain ⟨z0, z1, z2, z3, z4, z5⟩ := HBk.fr6
          obtain ⟨x0, x1, x2, x3, x4, x5⟩ := H64.out
          have Hbe := Lib.hid (Hbb.out.trans ((HB3.out.trans (Hb4.out.mono hz3)).mono Hbb.out.size))
          have Hbk := Lib.hid HBk
          clear hin hmem hy hz HBk
          go_wp2
          refine bodyPost_ret (v := .tuple #[.agg (mc z), I 0]) ?_ rfl ⟨by rw [Hz.out.1, Hz.out.2], below_st6 Hbe.out (Nat.le_refl _) z⟩
          simp [results, Try.results50, go_sem, *]
        · have hnm : z ∉ E.filter (zeroS E true) := fun h => hin (List.mem_filter.1 h).2
          have hy : plOf (E.filter (zeroS E true)) z - 1 = -1 := by rw [plOf_out hnm]; rfl
          rw [hy]
          have Hin : Hid (zeroS E true z = false) := by show _ = _; simpa using hin
          clear hin hnm hy
          go_wp2_with fail
          go_roundw
          case rel => exact ⟨q + 1, by go_num, by omega, Hb4.out, fun j hj => by
            by_cases e : j = q
            · rw [e, ← Hzz.out]; exact Hin.out
            · exact Hno.out j (by omega)⟩
          case measure => simp [intOf]; omega
      · obtain rfl : q = k := by omega
        have hqi : ¬ ((q : Int) < (q : Int)) := by omega
        have hz : zeroR ms = M0 ∧ zeroC ms = 4 := by
          have hR := none_filter (P := zeroS E true) (L := L) (fun j hj => Hno.out j (by rw [Hk.out] at hj; exact hj))
          rw [← HT.out] at hR
          rw [HR.out, HC.out, hR]
          exact ⟨rfl, rfl⟩
        have Hz := Lib.hid hz
        have HBk := HB.out.below (HB3.out.trans (Hb.out.mono hz3)) hlt
        obtain ⟨e0, e1, e2, e3, e4, e5⟩ := HBk.six
        obtain ⟨z0, z1, z2, z3, z4, z5⟩ := HBk.fr6
        have Hbe := Lib.hid (Hbb.out.trans ((HB3.out.trans (Hb.out.mono hz3)).mono Hbb.out.size))
        clear hz HBk
        go_wp2
        refine bodyPost_ret (v := .tuple #[.agg (mc M0), I 4]) ?_ rfl ⟨by rw [Hz.out.1, Hz.out.2], below_st6 Hbe.out (Nat.le_refl _) M0⟩
        simp [results, Try.results50, go_sem, *]
        exact ⟨rfl, rfl, rfl, rfl, rfl, rfl⟩
  · have hR : thatR zeroB ms = [] := that_bad hc
    have HC : Hid (zeroC ms = elC ms []) := by show _ = _; unfold zeroC; rw [if_neg hc]
    have HR : Hid (zeroR ms = M0) := by show _ = _; unfold zeroR; rw [hR]; rfl
    have hne : (elC ms [] != 0) = true := by simpa using hc
    clear hc hR
    go_enter Try.func50, Try.ntmps50
    go_wp2_with fail
    rw [← Hwb.out]
    refine (l02Elements_any A none n c 0 0 ms [] wb Hx.out Rd.nil_ Hn.out rfl hb (by decide)).mono ?_
    rintro e w1 ⟨A', c', rfl, hr, hb1⟩
    have HB1 := HB.out.below hb1 hlt
    obtain ⟨e0, e1, e2, e3, e4, e5⟩ := HB1.six
    obtain ⟨z0, z1, z2, z3, z4, z5⟩ := HB1.fr6
    have Hb := Lib.hid (Hbb.out.trans (hb1.mono Hbb.out.size))
    clear hr hb1
    go_wp2
    refine bodyPost_ret (v := .tuple #[.agg (mc M0), I (elC ms [])]) ?_ rfl ⟨by rw [HR.out, HC.out], below_st6 Hb.out (Nat.le_refl _) M0⟩
    simp [results, Try.results50, go_sem, *]
    exact ⟨rfl, rfl, rfl, rfl, rfl, rfl⟩

/-! ### regular elements -/
def invQ (f g : M) : Bool := decide (mul (mul f g) f = f) && decide (mul g (mul f g) = g)
theorem invS_any (A : Option Addr) (N c : Nat) (E : List M) (f : M) (n : Int) (w : World) (hx : RdM w w.heap.size A E) (hn : E.length = N) (hm : Mnd n E) (hN : N ≤ 300) (hf : f ∈ E) :
    Calls Try.prog 144 #[.slice A N c, .agg (mc f)] w fun e w' => ∃ v, e = .returned v ∧ OwM 31 w' w.heap.size v (E.filter (invQ f)) ∧ Below w.heap.size w w' := by
  have hpos : 0 < E.length := hm.pos
  obtain ⟨b, off, rfl, hbb, _⟩ := RdM.at_ hx hpos
  obtain ⟨wb, hwb⟩ : ∃ wb, wb = w.alloc (.cells (mc f) 31) := ⟨_, rfl⟩
  have hbb2 : Below w.heap.size w wb := by rw [hwb]; exact (Below.refl _ _).alloc (Nat.le_refl _) _
  have HF : Hid (Six wb w.heap.size f) := by show Six _ _ _; rw [hwb]; exact Blk.six (Blk.new w _ _)
  have Hx := Lib.hid (Rd.more (Rd.below hx hbb2) hbb2.size)
  have Hn := Lib.hid hn
  have HE : Hid (∀ i, i < N → Valid (gm E i) ∧ (gm E i).p = n) := fun i hi => hm.ok _ (gm_mem (by omega))
  have hvf := (hm.ok f hf).1
  have Hpf := Lib.hid (hm.ok f hf).2
  have Hbb := Lib.hid hbb2
  have Hwb := Lib.hid hwb
  have hlf := HF.out.lt
  have hz0 := hbb2.size
  have hzs : wb.heap.size = w.heap.size + 1 := by rw [hwb]; simp
  clear hx hn hm hbb2 hwb hf
  go_enter Try.func144, Try.ntmps144
  go_wp2_with fail
  try rw [← Hwb.out]
  have hst : OwM 31 (wb.alloc (.cells #[] 31)) wb.heap.size (.slice (some ⟨w.heap.size + 1, 0, none⟩) 0 0) [] := by
    have h : OwM 31 (wb.alloc (.cells #[] 31)) wb.heap.size (.slice (some ⟨wb.heap.size, 0, none⟩) 0 0) [] := OwM.made (Nat.le_refl _)
    have e : (Value.slice (some ⟨wb.heap.size, 0, none⟩) 0 0) = Value.slice (some ⟨w.heap.size + 1, 0, none⟩) 0 0 := by rw [hzs]
    rw [e] at h
    exact h
  have Hst := Lib.hid hst
  clear hst
  go_loopw [5, 6] (fun v i wr => ∃ q : Nat, i = .int .i64 q ∧ q ≤ N ∧ Below wb.heap.size wb wr ∧ OwM 31 wr wb.heap.size v ((E.take q).filter (invQ f))) (fun _ i _ => N - (intOf i).toNat)
  case atStart => exact ⟨0, rfl, by omega, (Below.refl _ _).alloc (Nat.le_refl _) _, by simpa using Hst.out⟩
  case round =>
    obtain ⟨q, rfl, hq, hb, ho⟩ := hrel
    obtain ⟨L, hL⟩ : ∃ L, L = (E.take q).filter (invQ f) := ⟨_, rfl⟩
    rw [← hL] at ho
    have hLl : L.length ≤ 300 := by rw [hL]; have := filter_len E (invQ f) q; have := Hn.out; omega
    have HL := Lib.hid hL
    obtain ⟨A1, c1, hv, _⟩ := ho.form
    obtain ⟨k1, hk1⟩ : ∃ k1, L.length = k1 := ⟨_, rfl⟩
    rw [hk1] at hv hLl
    subst hv
    have Hk1 := Lib.hid hk1
    have Hb := Lib.hid hb
    have Ho := Lib.hid ho
    have hzr := hb.size
    clear hb ho hL hk1
    by_cases hqN : q < N
    · have hqi : (q : Int) < (N : Int) := by omega
      have hvg := (HE.out q hqN).1
      have hpg := (HE.out q hqN).2
      obtain ⟨g, hgg⟩ : ∃ g, g = gm E q := ⟨_, rfl⟩
      have H6 := (RdM.six (Rd.more (Rd.below Hx.out Hb.out) Hb.out.size) (k := q) (by rw [Hn.out]; exact hqN)).1
      rw [← hgg] at H6 hvg hpg
      have hfs := filter_take (E := E) (P := invQ f) (r := q) (by rw [Hn.out]; exact hqN)
      rw [← HL.out, ← hgg] at hfs
      have Hfs := Lib.hid hfs
      obtain ⟨x0, x1, x2, x3, x4, x5⟩ := H6
      have hvm : Valid (mul f g) := Valid.mul hvf hvg (by rw [Hpf.out, hpg])
      obtain ⟨y0, y1, y2, y3, y4, y5⟩ := HF.out.below Hb.out hlf
      have hfl : w.heap.size < wr.heap.size := by omega
      -- the box of the element
      obtain ⟨wg, hwg⟩ : ∃ wg, wg = wr.alloc (.cells (mc g) 31) := ⟨_, rfl⟩
      have HG0 : Hid (Six wg wr.heap.size g) := by show Six _ _ _; rw [hwg]; exact Blk.six (Blk.new wr _ _)
      have Hbg : Hid (Below wb.heap.size wb wg) := by show Below _ _ _; rw [hwg]; exact Hb.out.alloc hzr _
      have Hog : Hid (OwM 31 wg wb.heap.size (.slice A1 k1 c1) L) := by show OwM _ _ _ _ _; rw [hwg]; exact Ho.out.alloc _
      have hzg : wg.heap.size = wr.heap.size + 1 := by rw [hwg]; simp
      have Hwg := Lib.hid hwg
      clear hgg hfs hpg hwg Ho Hb
      go_wp2_with fail
      rw [← Hwg.out]
      refine (l01Times_any f g wg hvf).mono ?_
      rintro e w3 ⟨rfl, hb3⟩
      obtain ⟨m, hm⟩ : ∃ m, m = mul f g := ⟨_, rfl⟩
      have hqm : invQ f g = (decide (mul m f = f) && decide (mul g m = g)) := by rw [hm]; rfl
      rw [hqm] at Hfs
      rw [← hm] at hvm ⊢
      -- the box of the product
      obtain ⟨w4, hw4⟩ : ∃ w4, w4 = w3.alloc (.cells (mc m) 31) := ⟨_, rfl⟩
      have hb34 : Below wg.heap.size wg w4 := by rw [hw4]; exact hb3.alloc hb3.size _
      have HM4 : Hid (Six w4 w3.heap.size m) := by show Six _ _ _; rw [hw4]; exact Blk.six (Blk.new w3 _ _)
      have HG4 : Hid (Six w4 wr.heap.size g) := HG0.out.below hb34 (by omega)
      have Hb4 : Hid (Below wb.heap.size wb w4) := Hbg.out.trans (hb34.mono (by omega))
      have HF4 : Hid (Six w4 w.heap.size f) := HF.out.below Hb4.out hlf
      have Ho4 := Lib.hid (Hog.out.below hb34 (Nat.le_refl _))
      have l1 := HM4.out.lt
      have l2 := HG4.out.lt
      have l3 := HF4.out.lt
      have Hw4 := Lib.hid hw4
      have heq1 := eqMap_run (mul m f) f
      have heq2 := eqMap_run (mul g m) g
      obtain ⟨d1, hd1⟩ : ∃ d1, d1 = decide (mul m f = f) := ⟨_, rfl⟩
      obtain ⟨d2, hd2⟩ : ∃ d2, d2 = decide (mul g m = g) := ⟨_, rfl⟩
      rw [← hd1] at heq1 Hfs
      rw [← hd2] at heq2 Hfs
      clear x0 x1 x2 x3 x4 x5 y0 y1 y2 y3 y4 y5 hb3 hb34 hw4 hm hqm hd1 hd2 HG0 Hbg Hog Hwg hzg
      go_wp2_with fail
      rw [← Hw4.out]
      clear Hw4
      cases d1
      · have Hf : Hid ((E.take (q + 1)).filter (invQ f) = L) := by show _ = _; rw [Hfs.out]; simp
        clear heq2
        refine wp_region_same [] rfl (by kernel_rfl) (by kernel_rfl) (by kernel_rfl) (fun w' => Below w4.heap.size w4 w') _
          [.agg (mc m), .agg (mc f), .agg (mc (mul m f)), .agg (mc f), .bool false, .bool false, undef, undef, undef, undef, undef, .bool false]
          (by simp only [putAll, List.setIfInBounds_toArray, List.set_cons_succ, List.set_cons_zero]; rfl) (Below.refl _ _).drew ?hop ?hQ
        case hop =>
          refine FixBL.toL (fun w' w'' hS hb => hS.trans (hb.mono hS.size)) _ _ ?_
          refine ⟨.inr ?_, .inr ?_, .inr ?_, .inr ?_, .inr ?_, .inr ?_, .inr ?_, .inr ?_, .inr ?_, .inr ?_, .inr ?_, .inr ?_, trivial⟩
          · (with_reducible refine FixB.of ?_ ?_; rfl; intro w' hS; have s0 := HM4.out.below hS l1; have s1 := HF4.out.below hS l3; clear hS; unfold Oper.wp; go_simp; first | done | exact Below.refl _ _)
          · (with_reducible refine FixB.of ?_ ?_; rfl; intro w' hS; have s0 := HM4.out.below hS l1; have s1 := HF4.out.below hS l3; clear hS; unfold Oper.wp; go_simp; first | done | exact Below.refl _ _)
          · (with_reducible refine FixB.of ?_ ?_; rfl; intro w' hS; have s3 := Lib.hid hS; unfold Oper.wp; clear hS; go_simp; refine (l01Times_any m f _ (by assumption)).mono ?_; rintro e w1 ⟨rfl, hb⟩; exact ⟨rfl, hb⟩)
          · (with_reducible refine FixB.of ?_ ?_; rfl; intro w' hS; have s0 := HM4.out.below hS l1; have s1 := HF4.out.below hS l3; clear hS; unfold Oper.wp; go_simp; first | done | exact Below.refl _ _)
          · (with_reducible refine FixB.of ?_ ?_; rfl; intro w' hS; have s0 := HM4.out.below hS l1; have s1 := HF4.out.below hS l3; clear hS; unfold Oper.wp; go_simp; first | done | exact Below.refl _ _)
          · (with_reducible refine FixB.of ?_ ?_; rfl; intro w' hS; have s0 := HM4.out.below hS l1; have s1 := HF4.out.below hS l3; clear hS; unfold Oper.wp; go_simp; first | done | exact Below.refl _ _)
          · exact FixB.off (by first | rfl | kernel_rfl | (simp [Region.wanted, yielded]; done)) rfl
          · exact FixB.off (by first | rfl | kernel_rfl | (simp [Region.wanted, yielded]; done)) rfl
          · exact FixB.off (by first | rfl | kernel_rfl | (simp [Region.wanted, yielded]; done)) rfl
          · exact FixB.off (by first | rfl | kernel_rfl | (simp [Region.wanted, yielded]; done)) rfl
          · exact FixB.off (by first | rfl | kernel_rfl | (simp [Region.wanted, yielded]; done)) rfl
          · (with_reducible refine FixB.of ?_ ?_; rfl; intro w' hS; have s0 := HM4.out.below hS l1; have s1 := HF4.out.below hS l3; clear hS; unfold Oper.wp; go_simp; first | done | exact Below.refl _ _)
        case hQ =>
        intro wc hS _
        have HB2 := Lib.hid hS
        clear hS
        clear heq1
        go_wp2_with fail
        go_roundw
        case rel => exact ⟨q + 1, by go_num, by omega, Hb4.out.trans (HB2.out.mono Hb4.out.size), by rw [Hf.out]; exact Ho4.out.below HB2.out (Nat.le_refl _)⟩
        case measure => simp [intOf]; omega
      · cases d2
        · have Hf : Hid ((E.take (q + 1)).filter (invQ f) = L) := by show _ = _; rw [Hfs.out]; simp
          refine wp_region_same [] rfl (by kernel_rfl) (by kernel_rfl) (by kernel_rfl) (fun w' => Below w4.heap.size w4 w') _
            [.agg (mc m), .agg (mc f), .agg (mc (mul m f)), .agg (mc f), .bool true, .bool true, .agg (mc g), .agg (mc m), .agg (mc (mul g m)), .agg (mc g), .bool false, .bool false]
            (by simp only [putAll, List.setIfInBounds_toArray, List.set_cons_succ, List.set_cons_zero]; rfl) (Below.refl _ _).drew ?hop ?hQ
          case hop =>
            refine FixBL.toL (fun w' w'' hS hb => hS.trans (hb.mono hS.size)) _ _ ?_
            refine ⟨.inr ?_, .inr ?_, .inr ?_, .inr ?_, .inr ?_, .inr ?_, .inr ?_, .inr ?_, .inr ?_, .inr ?_, .inr ?_, .inr ?_, trivial⟩
            · (with_reducible refine FixB.of ?_ ?_; rfl; intro w' hS; have s0 := HM4.out.below hS l1; have s1 := HF4.out.below hS l3; have s2 := HG4.out.below hS l2; clear hS; unfold Oper.wp; go_simp; first | done | exact Below.refl _ _)
            · (with_reducible refine FixB.of ?_ ?_; rfl; intro w' hS; have s0 := HM4.out.below hS l1; have s1 := HF4.out.below hS l3; have s2 := HG4.out.below hS l2; clear hS; unfold Oper.wp; go_simp; first | done | exact Below.refl _ _)
            · (with_reducible refine FixB.of ?_ ?_; rfl; intro w' hS; have s3 := Lib.hid hS; unfold Oper.wp; clear hS; go_simp; refine (l01Times_any m f _ (by assumption)).mono ?_; rintro e w1 ⟨rfl, hb⟩; exact ⟨rfl, hb⟩)
            · (with_reducible refine FixB.of ?_ ?_; rfl; intro w' hS; have s0 := HM4.out.below hS l1; have s1 := HF4.out.below hS l3; have s2 := HG4.out.below hS l2; clear hS; unfold Oper.wp; go_simp; first | done | exact Below.refl _ _)
            · (with_reducible refine FixB.of ?_ ?_; rfl; intro w' hS; have s0 := HM4.out.below hS l1; have s1 := HF4.out.below hS l3; have s2 := HG4.out.below hS l2; clear hS; unfold Oper.wp; go_simp; first | done | exact Below.refl _ _)
            · (with_reducible refine FixB.of ?_ ?_; rfl; intro w' hS; have s0 := HM4.out.below hS l1; have s1 := HF4.out.below hS l3; have s2 := HG4.out.below hS l2; clear hS; unfold Oper.wp; go_simp; first | done | exact Below.refl _ _)
            · (refine FixB.on (by first | rfl | kernel_rfl | (simp [Region.wanted, yielded]; done)) ?_; intro w' hS; have s0 := HM4.out.below hS l1; have s1 := HF4.out.below hS l3; have s2 := HG4.out.below hS l2; clear hS; unfold Oper.wp; go_simp; first | done | exact Below.refl _ _)
            · (refine FixB.on (by first | rfl | kernel_rfl | (simp [Region.wanted, yielded]; done)) ?_; intro w' hS; have s0 := HM4.out.below hS l1; have s1 := HF4.out.below hS l3; have s2 := HG4.out.below hS l2; clear hS; unfold Oper.wp; go_simp; first | done | exact Below.refl _ _)
            · (refine FixB.on (by first | rfl | kernel_rfl | (simp [Region.wanted, yielded]; done)) ?_; intro w' hS; have s3 := Lib.hid hS; unfold Oper.wp; clear hS; go_simp; refine (l01Times_any g m _ (by assumption)).mono ?_; rintro e w1 ⟨rfl, hb⟩; exact ⟨rfl, hb⟩)
            · (refine FixB.on (by first | rfl | kernel_rfl | (simp [Region.wanted, yielded]; done)) ?_; intro w' hS; have s0 := HM4.out.below hS l1; have s1 := HF4.out.below hS l3; have s2 := HG4.out.below hS l2; clear hS; unfold Oper.wp; go_simp; first | done | exact Below.refl _ _)
            · (refine FixB.on (by first | rfl | kernel_rfl | (simp [Region.wanted, yielded]; done)) ?_; intro w' hS; have s0 := HM4.out.below hS l1; have s1 := HF4.out.below hS l3; have s2 := HG4.out.below hS l2; clear hS; unfold Oper.wp; go_simp; first | done | exact Below.refl _ _)
            · (with_reducible refine FixB.of ?_ ?_; rfl; intro w' hS; have s0 := HM4.out.below hS l1; have s1 := HF4.out.below hS l3; have s2 := HG4.out.below hS l2; clear hS; unfold Oper.wp; go_simp; first | done | exact Below.refl _ _)
          case hQ =>
          intro wc hS _
          have HB2 := Lib.hid hS
          clear hS
          clear heq1 heq2
          go_wp2_with fail
          go_roundw
          case rel => exact ⟨q + 1, by go_num, by omega, Hb4.out.trans (HB2.out.mono Hb4.out.size), by rw [Hf.out]; exact Ho4.out.below HB2.out (Nat.le_refl _)⟩
          case measure => simp [intOf]; omega
        · have Hf : Hid ((E.take (q + 1)).filter (invQ f) = L ++ [g]) := by show _ = _; rw [Hfs.out]; simp
          refine wp_region_same [] rfl (by kernel_rfl) (by kernel_rfl) (by kernel_rfl) (fun w' => Below w4.heap.size w4 w') _
            [.agg (mc m), .agg (mc f), .agg (mc (mul m f)), .agg (mc f), .bool true, .bool true, .agg (mc g), .agg (mc m), .agg (mc (mul g m)), .agg (mc g), .bool true, .bool true]
            (by simp only [putAll, List.setIfInBounds_toArray, List.set_cons_succ, List.set_cons_zero]; rfl) (Below.refl _ _).drew ?hop ?hQ
          case hop =>
            refine FixBL.toL (fun w' w'' hS hb => hS.trans (hb.mono hS.size)) _ _ ?_
            refine ⟨.inr ?_, .inr ?_, .inr ?_, .inr ?_, .inr ?_, .inr ?_, .inr ?_, .inr ?_, .inr ?_, .inr ?_, .inr ?_, .inr ?_, trivial⟩
            · (with_reducible refine FixB.of ?_ ?_; rfl; intro w' hS; have s0 := HM4.out.below hS l1; have s1 := HF4.out.below hS l3; have s2 := HG4.out.below hS l2; clear hS; unfold Oper.wp; go_simp; first | done | exact Below.refl _ _)
            · (with_reducible refine FixB.of ?_ ?_; rfl; intro w' hS; have s0 := HM4.out.below hS l1; have s1 := HF4.out.below hS l3; have s2 := HG4.out.below hS l2; clear hS; unfold Oper.wp; go_simp; first | done | exact Below.refl _ _)
            · (with_reducible refine FixB.of ?_ ?_; rfl; intro w' hS; have s3 := Lib.hid hS; unfold Oper.wp; clear hS; go_simp; refine (l01Times_any m f _ (by assumption)).mono ?_; rintro e w1 ⟨rfl, hb⟩; exact ⟨rfl, hb⟩)
            · (with_reducible refine FixB.of ?_ ?_; rfl; intro w' hS; have s0 := HM4.out.below hS l1; have s1 := HF4.out.below hS l3; have s2 := HG4.out.below hS l2; clear hS; unfold Oper.wp; go_simp; first | done | exact Below.refl _ _)
            · (with_reducible refine FixB.of ?_ ?_; rfl; intro w' hS; have s0 := HM4.out.below hS l1; have s1 := HF4.out.below hS l3; have s2 := HG4.out.below hS l2; clear hS; unfold Oper.wp; go_simp; first | done | exact Below.refl _ _)
            · (with_reducible refine FixB.of ?_ ?_; rfl; intro w' hS; have s0 := HM4.out.below hS l1; have s1 := HF4.out.below hS l3; have s2 := HG4.out.below hS l2; clear hS; unfold Oper.wp; go_simp; first | done | exact Below.refl _ _)
            · (refine FixB.on (by first | rfl | kernel_rfl | (simp [Region.wanted, yielded]; done)) ?_; intro w' hS; have s0 := HM4.out.below hS l1; have s1 := HF4.out.below hS l3; have s2 := HG4.out.below hS l2; clear hS; unfold Oper.wp; go_simp; first | done | exact Below.refl _ _)
            · (refine FixB.on (by first | rfl | kernel_rfl | (simp [Region.wanted, yielded]; done)) ?_; intro w' hS; have s0 := HM4.out.below hS l1; have s1 := HF4.out.below hS l3; have s2 := HG4.out.below hS l2; clear hS; unfold Oper.wp; go_simp; first | done | exact Below.refl _ _)
            · (refine FixB.on (by first | rfl | kernel_rfl | (simp [Region.wanted, yielded]; done)) ?_; intro w' hS; have s3 := Lib.hid hS; unfold Oper.wp; clear hS; go_simp; refine (l01Times_any g m _ (by assumption)).mono ?_; rintro e w1 ⟨rfl, hb⟩; exact ⟨rfl, hb⟩)
            · (refine FixB.on (by first | rfl | kernel_rfl | (simp [Region.wanted, yielded]; done)) ?_; intro w' hS; have s0 := HM4.out.below hS l1; have s1 := HF4.out.below hS l3; have s2 := HG4.out.below hS l2; clear hS; unfold Oper.wp; go_simp; first | done | exact Below.refl _ _)
            · (refine FixB.on (by first | rfl | kernel_rfl | (simp [Region.wanted, yielded]; done)) ?_; intro w' hS; have s0 := HM4.out.below hS l1; have s1 := HF4.out.below hS l3; have s2 := HG4.out.below hS l2; clear hS; unfold Oper.wp; go_simp; first | done | exact Below.refl _ _)
            · (with_reducible refine FixB.of ?_ ?_; rfl; intro w' hS; have s0 := HM4.out.below hS l1; have s1 := HF4.out.below hS l3; have s2 := HG4.out.below hS l2; clear hS; unfold Oper.wp; go_simp; first | done | exact Below.refl _ _)
          case hQ =>
          intro wc hS _
          have HB2 := Lib.hid hS
          clear hS
          have Ho5 := Lib.hid (Ho4.out.below HB2.out (Nat.le_refl _))
          have Hb5 := Lib.hid (Hb4.out.trans (HB2.out.mono Hb4.out.size))
          obtain ⟨x0, x1, x2, x3, x4, x5⟩ := HG4.out.below HB2.out l2
          have hsz := Hb5.out.size
          clear heq1 heq2 Ho4 Hb4
          go_wp2_with (at_builtin; refine wpList_pushM rfl (.tmp 35) (.tmp 37) rfl wb.heap.size (.slice A1 k1 c1) L rfl (Ho5.out.alloc _) k1 Hk1.out wc.heap.size 1 g rfl (Blk.six (Blk.new _ _ _)) (by omega) (by simp; omega) (wc.heap.size + 1) (by simp) ?_; intro g' cap w6 ho' hgr hg' hlt'; have Hb6 := Lib.hid (((Ho5.out.alloc (.cells (mc g) 31)).bel (Hb5.out.alloc hsz _) hgr (Nat.le_refl _) (by simp; omega))); have Ho6 := Lib.hid ho'; clear ho' hgr hg' hlt')
          go_roundw
          case rel => exact ⟨q + 1, by go_num, by omega, Hb6.out, by rw [Hf.out]; exact Ho6.out⟩
          case measure => simp [intOf]; omega
    · obtain rfl : q = N := by omega
      have hqi : ¬ ((q : Int) < (q : Int)) := by omega
      have HR : Hid (E.filter (invQ f) = L) := by show _ = _; rw [HL.out, List.take_of_length_le (by rw [Hn.out]; exact Nat.le_refl _)]
      have Hbe := Lib.hid (Hbb.out.trans (Hb.out.mono Hbb.out.size))
      go_wp2_with fail
      go_ret
      exact ⟨_, rfl, by rw [HR.out]; exact Ho.out.mono hz0, Hbe.out⟩

/-- a regular element has an inverse -/
theorem reg_eq {ms xs E : List M} {ps : Met} (hE : El ms xs E ps) {f : M} (hf : f ∈ E) : regB E (ix E f) = decide (0 < (E.filter (invQ f)).length) := by
  have hm := hE.mnd
  have hi := ix_lt hf
  have hgf := gm_ix hf
  rw [Bool.eq_iff_iff, decide_eq_true_eq]
  unfold regB
  rw [List.any_eq_true]
  have h1 : (∃ i ∈ List.range E.length, (pc E (pc E (ix E f) i) (ix E f) == ix E f) = true) ↔ ∃ g ∈ E, mul (mul f g) f = f := by
    constructor
    · rintro ⟨i, hi2, h⟩
      have hi2 := List.mem_range.1 hi2
      rw [pc_at hm (pc_lt hm hi hi2) hi hi, decide_eq_true_eq, gm_pc hm hi hi2, hgf] at h
      exact ⟨_, gm_mem hi2, h⟩
    · rintro ⟨g, hg, h⟩
      refine ⟨ix E g, List.mem_range.2 (ix_lt hg), ?_⟩
      rw [pc_at hm (pc_lt hm hi (ix_lt hg)) hi hi, decide_eq_true_eq, gm_pc hm hi (ix_lt hg), hgf, gm_ix hg]
      exact h
  rw [h1, reg_iff hm hf]
  constructor
  · rintro ⟨g, hg, e1, e2⟩
    refine List.length_pos_of_mem (a := g) (List.mem_filter.2 ⟨hg, ?_⟩)
    unfold invQ; rw [decide_eq_true e1, decide_eq_true e2]; rfl
  · intro h
    obtain ⟨g, hg⟩ := List.exists_mem_of_length_pos h
    obtain ⟨hg, hq⟩ := List.mem_filter.1 hg
    unfold invQ at hq
    simp only [Bool.and_eq_true, decide_eq_true_eq] at hq
    exact ⟨g, hg, hq.1, hq.2⟩
theorem regS_any (A : Option Addr) (N c : Nat) (E : List M) (f : M) (n : Int) (w : World) (hx : RdM w w.heap.size A E) (hn : E.length = N) (hm : Mnd n E) (hN : N ≤ 300) (hf : f ∈ E) :
    Calls Try.prog 89 #[.slice A N c, .agg (mc f)] w fun e w' => e = .returned (.bool (decide (0 < (E.filter (invQ f)).length))) ∧ Below w.heap.size w w' := by
  obtain ⟨wb, hwb⟩ : ∃ wb, wb = w.alloc (.cells (mc f) 31) := ⟨_, rfl⟩
  have hbb2 : Below w.heap.size w wb := by rw [hwb]; exact (Below.refl _ _).alloc (Nat.le_refl _) _
  have HF : Hid (Six wb w.heap.size f) := by show Six _ _ _; rw [hwb]; exact Blk.six (Blk.new w _ _)
  have H := Lib.hid (invS_any A N c E f n wb (Rd.more (Rd.below hx hbb2) hbb2.size) hn hm hN hf)
  have Hbb := Lib.hid hbb2
  have Hwb := Lib.hid hwb
  clear hx hn hm hbb2 hwb hf
  go_enter Try.func89, Try.ntmps89
  go_wp2_with fail
  rw [← Hwb.out]
  refine H.out.mono ?_
  rintro e w1 ⟨v, rfl, ho, hb1⟩
  obtain ⟨A1, c1, rfl, _⟩ := ho.form
  have Hb := Lib.hid (Hbb.out.trans (hb1.mono Hbb.out.size))
  obtain ⟨k, hk⟩ : ∃ k, k = (E.filter (invQ f)).length := ⟨_, rfl⟩
  rw [← hk]
  have Hk := Lib.hid hk
  clear ho hb1 hk
  by_cases h0 : 0 < k
  · have h1 : (0 : Int) < (k : Int) := by omega
    have HD : Hid (decide (0 < (E.filter (invQ f)).length) = true) := decide_eq_true (by rw [← Hk.out]; exact h0)
    go_wp2
    go_ret
    exact ⟨ret_bool HD.out.symm, Hb.out⟩
  · have h1 : ¬ (0 : Int) < (k : Int) := by omega
    have HD : Hid (decide (0 < (E.filter (invQ f)).length) = false) := decide_eq_false (by rw [← Hk.out]; exact h0)
    go_wp2
    go_ret
    exact ⟨ret_bool HD.out.symm, Hb.out⟩
end Go.Proofs.Ytknknljkmkfmoaa
