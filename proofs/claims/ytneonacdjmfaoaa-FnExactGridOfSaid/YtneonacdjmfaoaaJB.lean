/- Contract of GridOf of the reference; the lists are as the theorem states. -/
import Derived.Test.YtneonacdjmfaoaaJA
import Derived.Test.YtneonacdjmfaoaaK2
namespace Go.Proofs.Ytneonacdjmfaoaa
open Go.RowKit
set_option maxRecDepth 100000
set_option linter.unusedSimpArgs false
set_option linter.unusedVariables false

/-- the rows, the columns and the size of a cell of the class of f -/
def grL (E : List M) (x : Nat) : List Int := [((rowsOf E x).length : Int), ((colsOf E x).length : Int), (hCnt E x : Int)]
def grR (ms : List M) (f : M) : List Int := if monC ms [f] = 0 then grL (elR ms [f]) (ix (elR ms [f]) f) else []
theorem grR_len (ms : List M) (f : M) : (grR ms f).length ≤ 3 := by unfold grR; split <;> simp [grL]
theorem grR_bad {ms : List M} {f : M} (h : monC ms [f] ≠ 0) : grR ms f = [] := if_neg h
def jP (E : List M) (x : Nat) (i : Nat) : Bool := sameK E 3 i x
theorem rows_dfl (E : List M) (x : Nat) : rowsOf E x = dfl (jP E x) (clsK E 1) E.length := rfl
theorem cols_dfl (E : List M) (x : Nat) : colsOf E x = dfl (jP E x) (clsK E 0) E.length := rfl

def pcnt (p : Nat → Bool) (q : Nat) : Nat := ((List.range q).filter p).length
theorem pcnt_step (p : Nat → Bool) (q : Nat) : pcnt p (q + 1) = pcnt p q + (if p q then 1 else 0) := by
  unfold pcnt
  rw [List.range_succ, List.filter_append, List.length_append]
  cases h : p q <;> simp [h]
theorem pcnt_le (p : Nat → Bool) (q : Nat) : pcnt p q ≤ q := by
  have h2 := List.length_filter_le p (List.range q)
  rw [List.length_range] at h2
  exact h2
theorem Bls.far {w : World} {g n : Nat} {Q : Nat → Bool} (h : Bls w g n Q) {p : Addr} (hne : g ≠ p.block) (v : Value) : Bls (w.setCell p v) g n Q := by
  obtain ⟨cur, hB, h1, h2⟩ := h
  exact ⟨cur, hB.far (p := p) hne v, h1, h2⟩
theorem wp_makeB {w : World} {o : Oper} {a : Act} {K : Act → World → Prop} {Q : Exit → Act → World → Prop} (l c : Operand) (hop : o.op = Op.makeSlice 84 l c) (n : Nat) (hl : a.eval l = I n) (hc : a.eval c = I n) (hn : n < 1073741824)
    (h : ∀ w', Bls w' w.heap.size n (fun _ => false) → w.grownBy w' none → K (a.put o.dst (.slice (some ⟨w.heap.size, 0, none⟩) n n)) w') : o.wp Try.prog a w K Q := by
  obtain ⟨i, hi, hz0, hz1, hz2⟩ := info_parts infoB
  obtain ⟨w', hrun, r1, r2⟩ := run_make_full (P := Try.prog) w w.heap.size 84 TB i (.bool false) 1 Try.underlying84 hi hz0 hz1 .i64 .i64 n (by rw [hz2]; omega) (by unfold maxLen; omega) (Nat.le_refl _)
  unfold Oper.wp
  simp [execOp, hop, hl, hc, hrun, Result.andThen]
  exact h w' (madeB r1) r2

/-- the ghost of the region that makes two rows of flags -/
structure S5 (w0 : World) (n : Nat) (b2 b5 : Bool) (s : Nat × Nat) (w : World) : Prop where
  bel : Below w0.heap.size w0 w
  s2 : b2 = true → Bls w s.1 n (fun _ => false) ∧ w0.heap.size ≤ s.1
  s5 : b5 = true → Bls w s.2 n (fun _ => false) ∧ w0.heap.size ≤ s.2
  ne : b2 = true → b5 = true → s.1 ≠ s.2
theorem S5.do2 {w0 w w' : World} {n : Nat} {b5 : Bool} {s : Nat × Nat} (h : S5 w0 n false b5 s w) (hs : Bls w' w.heap.size n (fun _ => false)) (hg : w.grownBy w' none) : S5 w0 n true b5 (w.heap.size, s.2) w' :=
  ⟨h.bel.grown hg h.bel.size (fun k hk => by cases hk), fun _ => ⟨hs, h.bel.size⟩, fun e => ⟨(h.s5 e).1.grown hg (by simp), (h.s5 e).2⟩, fun _ e => by have := (h.s5 e).1.lt; show w.heap.size ≠ s.2; omega⟩
theorem S5.do5 {w0 w w' : World} {n : Nat} {b2 : Bool} {s : Nat × Nat} (h : S5 w0 n b2 false s w) (hs : Bls w' w.heap.size n (fun _ => false)) (hg : w.grownBy w' none) : S5 w0 n b2 true (s.1, w.heap.size) w' :=
  ⟨h.bel.grown hg h.bel.size (fun k hk => by cases hk), fun e => ⟨(h.s2 e).1.grown hg (by simp), (h.s2 e).2⟩, fun _ => ⟨hs, h.bel.size⟩, fun e _ => by have := (h.s2 e).1.lt; show s.1 ≠ w.heap.size; omega⟩

/-- the state of the count of rows and columns: r and c are the lists of numbers met -/
structure GS (w0 w : World) (N gr gc go : Nat) (rs cs : List Int) : Prop where
  bel : Below w0.heap.size w0 w
  r : Bls w gr N fun k => decide ((k : Int) ∈ rs)
  c : Bls w gc N fun k => decide ((k : Int) ∈ cs)
  o : OwI 2 w w0.heap.size (.slice (some ⟨go, 0, none⟩) 3 3) [(rs.length : Int), (cs.length : Int), 0]
  rc : gr ≠ gc
  ro : gr ≠ go
  co : gc ≠ go
  hr : w0.heap.size ≤ gr
  hc : w0.heap.size ≤ gc
section
variable {w0 w w' : World} {N gr gc go : Nat} {rs cs : List Int}
theorem GS.below (h : GS w0 w N gr gc go rs cs) (hb : Below w.heap.size w w') : GS w0 w' N gr gc go rs cs :=
  ⟨h.bel.trans (hb.mono h.bel.size), h.r.below hb h.r.lt, h.c.below hb h.c.lt, h.o.below hb (Nat.le_refl _), h.rc, h.ro, h.co, h.hr, h.hc⟩
theorem GS.ogo (h : GS w0 w N gr gc go rs cs) : w0.heap.size ≤ go := (h.o.lt go rfl).1
theorem GS.row (h : GS w0 w N gr gc go rs cs) {k : Nat} (hk : k < N) {a : Nat} (ha : rs.length = a) {w1 w2 : World} (h1 : w1 = w.setCell ⟨gr, k, none⟩ (.bool true)) (h2 : w2 = w1.setCell ⟨go, 0, none⟩ (I ((a : Int) + 1))) :
    w1.cell? ⟨go, 0, none⟩ = some (I a) ∧ w1.frozen? ⟨go, 0, none⟩ = false ∧ GS w0 w2 N gr gc go (rs ++ [(k : Int)]) cs := by
  have o1 : OwI 2 w1 w0.heap.size (.slice (some ⟨go, 0, none⟩) 3 3) [(rs.length : Int), (cs.length : Int), 0] := by rw [h1]; exact h.o.keep fun g hg => by injection hg with hg; exact Below.heap_setCell w ⟨gr, k, none⟩ _ g (by rw [← hg]; exact fun e => h.ro e.symm)
  obtain ⟨c1, z1, _, _, hst⟩ := OwI.spotAt o1 (k := 0) (by simp)
  have b1 : Below w0.heap.size w0 w1 := by rw [h1]; exact h.bel.setCell (p := ⟨gr, k, none⟩) h.hr _
  refine ⟨by rw [← ha]; exact c1, z1, ?_⟩
  rw [h2]
  have hh := hst ((a : Int) + 1)
  refine ⟨b1.setCell (p := ⟨go, 0, none⟩) h.ogo _, ?_, ?_, by rw [List.length_append, List.length_singleton, ha]; exact hh, h.rc, h.ro, h.co, h.hr, h.hc⟩
  · refine Bls.far (p := ⟨go, 0, none⟩) ?_ h.ro _
    rw [h1]
    refine (h.r.set hk).congr fun i _ => ?_
    rw [Bool.eq_iff_iff]
    simp only [Bool.or_eq_true, decide_eq_true_eq, List.mem_append, List.mem_singleton]
    exact or_congr Iff.rfl (by omega)
  · refine Bls.far (p := ⟨go, 0, none⟩) ?_ h.co _
    rw [h1]
    exact Bls.far (p := ⟨gr, k, none⟩) h.c (fun e => h.rc e.symm) _
theorem GS.col (h : GS w0 w N gr gc go rs cs) {k : Nat} (hk : k < N) {a : Nat} (ha : cs.length = a) {w1 w2 : World} (h1 : w1 = w.setCell ⟨gc, k, none⟩ (.bool true)) (h2 : w2 = w1.setCell ⟨go, 1, none⟩ (I ((a : Int) + 1))) :
    w1.cell? ⟨go, 1, none⟩ = some (I a) ∧ w1.frozen? ⟨go, 1, none⟩ = false ∧ GS w0 w2 N gr gc go rs (cs ++ [(k : Int)]) := by
  have o1 : OwI 2 w1 w0.heap.size (.slice (some ⟨go, 0, none⟩) 3 3) [(rs.length : Int), (cs.length : Int), 0] := by rw [h1]; exact h.o.keep fun g hg => by injection hg with hg; exact Below.heap_setCell w ⟨gc, k, none⟩ _ g (by rw [← hg]; exact fun e => h.co e.symm)
  obtain ⟨c1, z1, _, _, hst⟩ := OwI.spotAt o1 (k := 1) (by simp)
  have b1 : Below w0.heap.size w0 w1 := by rw [h1]; exact h.bel.setCell (p := ⟨gc, k, none⟩) h.hc _
  refine ⟨by rw [← ha]; exact c1, z1, ?_⟩
  rw [h2]
  have hh := hst ((a : Int) + 1)
  refine ⟨b1.setCell (p := ⟨go, 1, none⟩) h.ogo _, ?_, ?_, by rw [List.length_append, List.length_singleton, ha]; exact hh, h.rc, h.ro, h.co, h.hr, h.hc⟩
  · refine Bls.far (p := ⟨go, 1, none⟩) ?_ h.ro _
    rw [h1]
    exact Bls.far (p := ⟨gc, k, none⟩) h.r h.rc _
  · refine Bls.far (p := ⟨go, 1, none⟩) ?_ h.co _
    rw [h1]
    refine (h.c.set hk).congr fun i _ => ?_
    rw [Bool.eq_iff_iff]
    simp only [Bool.or_eq_true, decide_eq_true_eq, List.mem_append, List.mem_singleton]
    exact or_congr Iff.rfl (by omega)
end
set_option maxHeartbeats 4000000 in
theorem SpecGR_any (A : Option Addr) (n c : Nat) (ms : List M) (f : M) (w : World) (hx : RdM w w.heap.size A ms) (hn : ms.length = n) (hb : n < 1073741824) :
    Calls Try.prog 31 #[.slice A n c, .agg (mc f)] w (RetSI (grR ms f) (monC ms [f]) w) := by
  obtain ⟨wb, hwb⟩ : ∃ wb, wb = (w.alloc (.cells (mc f) 39)).alloc (.cells (mc f) 39) := ⟨_, rfl⟩
  have hbb : Below w.heap.size w wb := by rw [hwb]; exact ((Below.refl _ _).alloc (Nat.le_refl _) _).alloc (by simp) _
  have h7 : RdM wb wb.heap.size (some ⟨w.heap.size + 1, 0, none⟩) [f] := by rw [hwb]; exact rd_one (Blk.six (Blk.new' _ _ _ (by simp)))
  have Hx := Lib.hid (Rd.more (Rd.below hx hbb) hbb.size)
  have Hn := Lib.hid hn
  have H7 := Lib.hid h7
  have Hbb := Lib.hid hbb
  have Hwb := Lib.hid hwb
  clear hx hn h7 hbb hwb
  by_cases hm : monC ms [f] = 0
  · obtain ⟨E, ps, hE, hin⟩ := monC_el hm
    have hfE := hin f (by simp)
    have hG : gR ms [f] = E := by unfold gR; rw [if_pos hm, hE.r]
    have hNN : gN ms [f] = [(ix E f : Int)] := by unfold gN; rw [if_pos hm, hE.r]; rfl
    have hlen := hE.len
    have hn6 := hE.n6
    obtain ⟨x, hxx⟩ : ∃ x, x = ix E f := ⟨_, rfl⟩
    have hxl : x < E.length := by rw [hxx]; exact ix_lt hfE
    rw [← hxx] at hNN
    have hR : grR ms f = grL E x := by unfold grR; rw [if_pos hm, hE.r, ← hxx]
    obtain ⟨p, hp⟩ : ∃ p, p = jP E x := ⟨_, rfl⟩
    obtain ⟨N, hN⟩ : ∃ N, E.length = N := ⟨_, rfl⟩
    have hpv : ∀ i, i < N → ∀ a b, a = gi (clsK E 3) i → b = gi (clsK E 3) x → (a != b) = !p i := fun i hi a b ha hb => by
      rw [bne]
      congr 1
      rw [Bool.eq_iff_iff, beq_iff_eq, ha, hb, hp]
      exact clsK_eq hE.mnd 3 (by rw [hN]; exact hi) hxl
    have hfin : grL E x = [((dfl p (clsK E 1) N).length : Int), ((dfl p (clsK E 0) N).length : Int), (hCnt E x : Int)] := by rw [hp, ← hN]; rfl
    have hdiv : pcnt p N / ((dfl p (clsK E 1) N).length * (dfl p (clsK E 0) N).length) = hCnt E x := by rw [hp, ← hN]; exact grid_div hE.mnd hxl
    have hp1 : 0 < (dfl p (clsK E 1) N).length := by rw [hp, ← hN]; exact rows_pos hE.mnd hxl
    have hp2 : 0 < (dfl p (clsK E 0) N).length := by rw [hp, ← hN]; exact cols_pos hE.mnd hxl
    rw [hN] at hlen hxl
    have HG := Lib.hid hG
    have HNN := Lib.hid hNN
    have HN := Lib.hid hN
    have HE := Lib.hid hE
    have Hm := Lib.hid hm
    have HR := Lib.hid hR
    have Hpv := Lib.hid hpv
    have Hfin := Lib.hid hfin
    have Hdiv := Lib.hid hdiv
    have Hp1 := Lib.hid hp1
    have Hp2 := Lib.hid hp2
    have hxz : (x : Int) < (N : Int) := by omega
    have hn6' : n ≤ 6 := by rw [← Hn.out]; exact hn6
    clear hE hin hG hNN hxx hp hpv hN hm hfE hn6 hR hfin hdiv hp1 hp2
    go_enter Try.func31, Try.ntmps31
    go_wp2_with fail
    rw [← Hwb.out]
    refine (l03Given_any A (some ⟨w.heap.size + 1, 0, none⟩) n c 1 1 ms [f] wb Hx.out H7.out Hn.out rfl hb (by decide)).mono ?_
    rintro e w2 ⟨A', c', v, rfl, hr, hv, hb2⟩
    rw [HG.out] at hr ⊢
    rw [HNN.out] at hv
    rw [Hm.out, HN.out]
    obtain ⟨Av, cv, hvv, hrv⟩ := hv.form
    subst hvv
    obtain ⟨bv, ov, e, hbv, _⟩ := RdI.at_ hrv (k := 0) (by simp)
    subst e
    have C0 : Hid (w2.cell? ⟨bv, ov, none⟩ = some (I x)) := RdI.at0 hrv (k := 0) (by simp)
    have Hr := Lib.hid hr
    have Hb2 := Lib.hid hb2
    have hz2 := hb2.size
    simp only [List.length_cons, List.length_nil, Nat.zero_add]
    clear hr hv hrv hb2
    go_wp2_with fail
    refine (l03Kind_any A' N c' E A n c ms 0 rfl w2 Hr.out HN.out (Rd.more (Rd.below Hx.out Hb2.out) hz2) Hn.out hlen hn6' HE.out.mnd HE.out.mem HE.out.G).mono ?_
    rintro e w3 ⟨v, rfl, ho, hb3⟩
    obtain ⟨A3, c3, hv3, hr3⟩ := ho.form
    rw [clsK_length, HN.out] at hv3
    subst hv3
    have Hr0 := Lib.hid hr3
    have Hre3 := Lib.hid (Rd.more (Rd.below Hr.out hb3) hb3.size)
    have Hb3' := Lib.hid hb3
    have Hb3 := Lib.hid (Hb2.out.trans (hb3.mono hz2))
    have hz3 := Hb3.out.size
    have hz23 := hb3.size
    clear ho hr3 hb3 Hr
    go_wp2_with fail
    refine (l03Kind_any A' N c' E A n c ms 1 rfl w3 Hre3.out HN.out (Rd.more (Rd.below Hx.out Hb3.out) hz3) Hn.out hlen hn6' HE.out.mnd HE.out.mem HE.out.G).mono ?_
    rintro e w4 ⟨v, rfl, ho, hb4⟩
    obtain ⟨A4, c4, hv4, hr4⟩ := ho.form
    rw [clsK_length, HN.out] at hv4
    subst hv4
    have Hr0b := Lib.hid (Rd.more (Rd.below Hr0.out hb4) hb4.size)
    have Hr1 := Lib.hid hr4
    have Hre4 := Lib.hid (Rd.more (Rd.below Hre3.out hb4) hb4.size)
    have Hb4' := Lib.hid (Hb3'.out.trans (hb4.mono hz23))
    have Hb4 := Lib.hid (Hb3.out.trans (hb4.mono hz3))
    have hz4 := Hb4.out.size
    have hz24 := Hb4'.out.size
    clear ho hr4 hb4 Hr0 Hre3 Hb3 Hb3'
    go_wp2_with fail
    refine (l03Kind_any A' N c' E A n c ms 3 rfl w4 Hre4.out HN.out (Rd.more (Rd.below Hx.out Hb4.out) hz4) Hn.out hlen hn6' HE.out.mnd HE.out.mem HE.out.G).mono ?_
    rintro e w5 ⟨v, rfl, ho, hb5⟩
    obtain ⟨A5, c5, hv5, hr5⟩ := ho.form
    rw [clsK_length, HN.out] at hv5
    subst hv5
    have HL := Lib.hid (Rd.more (Rd.below Hr0b.out hb5) hb5.size)
    have HRi := Lib.hid (Rd.more (Rd.below Hr1.out hb5) hb5.size)
    have HJ := Lib.hid hr5
    have hb25 := Hb4'.out.trans (hb5.mono hz24)
    have C5 : Hid (w5.cell? ⟨bv, ov, none⟩ = some (I x)) := (hb25.cell (p := ⟨bv, ov, none⟩) hbv).trans C0.out
    have hbv5 : bv < w5.heap.size := Nat.lt_of_lt_of_le hbv hb25.size
    have Hb5 := Lib.hid (Hb4.out.trans (hb5.mono hz4))
    have hz5 := Hb5.out.size
    clear ho hr5 hb5 Hr0b Hr1 Hre4 Hb4 Hb4' hb25 C0
    go_wp2_with fail
    refine wp_region_flags [] rfl (by kernel_rfl) (by kernel_rfl) [] (by kernel_rfl) _
      (fun s : Nat × Nat => [.slice A' N c', I N, .slice (some ⟨s.1, 0, none⟩) N N, .slice A' N c', I N, .slice (some ⟨s.2, 0, none⟩) N N, .slice (some ⟨bv, ov, none⟩) 1 cv, .pointer (some ⟨bv, ov, none⟩), I x, .slice (some ⟨s.1, 0, none⟩) N N, .slice (some ⟨s.2, 0, none⟩) N N, I 0, I x])
      (by intro s; simp only [putAll, List.setIfInBounds_toArray, List.set_cons_succ, List.set_cons_zero]; rfl)
      [] rfl _
      (by intro s; simp only [setAll, List.setIfInBounds_toArray, List.set_cons_succ, List.set_cons_zero]; rfl) (by kernel_rfl)
      (fun d s w' => S5 w5 N (d 2) (d 5) s w')
      (0, 0) ⟨(Below.refl _ _).drew, by simp, by simp, by simp⟩ ?hop ?hQ
    case hop =>
      refine ⟨?_, ?_, ?_, ?_, ?_, ?_, ?_, ?_, ?_, ?_, ?_, ?_, ?_, trivial⟩
      · refine ⟨rfl, Flag.pure (fun _ _ _ h => h) fun d c w' hd hdeps hcl hS => ?_⟩
        skip
        clear hS hdeps hcl hd
        unfold Oper.wp
        go_simp
        exact ⟨rfl, fun t ht => by injection ht with ht; subst ht; rfl, rfl⟩
      · refine ⟨rfl, Flag.pure (fun _ _ _ h => h) fun d c w' hd hdeps hcl hS => ?_⟩
        skip
        clear hS hdeps hcl hd
        unfold Oper.wp
        go_simp
        exact ⟨rfl, fun t ht => by injection ht with ht; subst ht; rfl, rfl⟩
      · refine ⟨rfl, fun d s w' hd hdeps hcl hS => ?_⟩
        have d9 := hcl.down (k := 9) (j := 2) rfl (by kernel_rfl) hd
        have hS : S5 w5 N (d 2) (d 5) s w' := hS
        rw [hd] at hS
        refine wp_makeB (.tmp 39) (.tmp 39) rfl N rfl rfl (by omega) ?_
        intro w6 hs hg
        refine FlagPost.two ((w'.heap.size, s.2) : Nat × Nat) 40 (.slice (some ⟨w'.heap.size, 0, none⟩) N N) 9 _ 12 rfl rfl rfl ?_ rfl rfl rfl (by decide) d9
        show S5 _ _ true (d 5) _ _
        exact hS.do2 hs hg
      · refine ⟨rfl, Flag.pure (fun _ _ _ h => h) fun d c w' hd hdeps hcl hS => ?_⟩
        skip
        clear hS hdeps hcl hd
        unfold Oper.wp
        go_simp
        exact ⟨rfl, fun t ht => by injection ht with ht; subst ht; rfl, rfl⟩
      · refine ⟨rfl, Flag.pure (fun _ _ _ h => h) fun d c w' hd hdeps hcl hS => ?_⟩
        skip
        clear hS hdeps hcl hd
        unfold Oper.wp
        go_simp
        exact ⟨rfl, fun t ht => by injection ht with ht; subst ht; rfl, rfl⟩
      · refine ⟨rfl, fun d s w' hd hdeps hcl hS => ?_⟩
        have d10 := hcl.down (k := 10) (j := 5) rfl (by kernel_rfl) hd
        have hS : S5 w5 N (d 2) (d 5) s w' := hS
        rw [hd] at hS
        refine wp_makeB (.tmp 42) (.tmp 42) rfl N rfl rfl (by omega) ?_
        intro w6 hs hg
        refine FlagPost.two ((s.1, w'.heap.size) : Nat × Nat) 43 (.slice (some ⟨w'.heap.size, 0, none⟩) N N) 10 _ 13 rfl rfl rfl ?_ rfl rfl rfl (by decide) d10
        show S5 _ _ (d 2) true _ _
        exact hS.do5 hs hg
      · refine ⟨rfl, Flag.pure (fun _ _ _ h => h) fun d c w' hd hdeps hcl hS => ?_⟩
        skip
        clear hS hdeps hcl hd
        unfold Oper.wp
        go_simp
        exact ⟨rfl, fun t ht => by injection ht with ht; subst ht; rfl, rfl⟩
      · refine ⟨rfl, Flag.pure (fun _ _ _ h => h) fun d c w' hd hdeps hcl hS => ?_⟩
        skip
        clear hS hdeps hcl hd
        unfold Oper.wp
        go_simp
        exact ⟨rfl, fun t ht => by injection ht with ht; subst ht; rfl, rfl⟩
      · refine ⟨rfl, Flag.pure (fun _ _ _ h => h) fun d c w' hd hdeps hcl hS => ?_⟩
        have s0 := (hS.bel.cell (p := ⟨bv, ov, none⟩) hbv5).trans C5.out
        clear hS hdeps hcl hd
        unfold Oper.wp
        go_simp
        exact ⟨rfl, fun t ht => by injection ht with ht; subst ht; rfl, rfl⟩
      · refine ⟨rfl, Flag.pure (fun _ _ _ h => h) fun d c w' hd hdeps hcl hS => ?_⟩
        skip
        clear hS hdeps hcl hd
        unfold Oper.wp
        go_simp
        exact ⟨rfl, fun t ht => by injection ht with ht; subst ht; rfl, rfl⟩
      · refine ⟨rfl, Flag.pure (fun _ _ _ h => h) fun d c w' hd hdeps hcl hS => ?_⟩
        skip
        clear hS hdeps hcl hd
        unfold Oper.wp
        go_simp
        exact ⟨rfl, fun t ht => by injection ht with ht; subst ht; rfl, rfl⟩
      · refine ⟨rfl, Flag.pure (fun _ _ _ h => h) fun d c w' hd hdeps hcl hS => ?_⟩
        skip
        clear hS hdeps hcl hd
        unfold Oper.wp
        go_simp
        exact ⟨rfl, fun t ht => by injection ht with ht; subst ht; rfl, rfl⟩
      · refine ⟨rfl, Flag.pure (fun _ _ _ h => h) fun d c w' hd hdeps hcl hS => ?_⟩
        skip
        clear hS hdeps hcl hd
        unfold Oper.wp
        go_simp
        exact ⟨rfl, fun t ht => by injection ht with ht; subst ht; rfl, rfl⟩
    case hQ =>
    intro fl s we hall hS
    have hS : S5 w5 N (fl 2) (fl 5) s we := hS
    rw [hall 2 (by decide), hall 5 (by decide)] at hS
    obtain ⟨gr, gc⟩ := s
    have HS := Lib.hid hS
    have hze := hS.bel.size
    clear hall hS
    obtain ⟨go, hgo⟩ : ∃ go, go = we.heap.size := ⟨_, rfl⟩
    obtain ⟨wg, hwg⟩ : ∃ wg, wg = we.alloc (.cells #[I 0, I 0, I 0] 2) := ⟨_, rfl⟩
    have HG0 : Hid (GS w5 wg N gr gc go (dfl p (clsK E 1) 0) (dfl p (clsK E 0) 0)) := by
      have hgr := World.grownBy_alloc we (.cells #[I 0, I 0, I 0] 2) none
      have l1 := (HS.out.s2 rfl).1.lt
      have l2 := (HS.out.s5 rfl).1.lt
      show GS _ _ _ _ _ _ _ _
      rw [hwg, hgo]
      exact ⟨HS.out.bel.alloc hze _, ((HS.out.s2 rfl).1.grown hgr (by simp)).congr (fun _ _ => rfl), ((HS.out.s5 rfl).1.grown hgr (by simp)).congr (fun _ _ => rfl), ⟨rfl, .inr ⟨we.heap.size, 3, #[I 0, I 0, I 0], rfl, hze, Blk.new we _ _, Nat.le_refl _, by simp [maxLen], rfl, rfl⟩⟩, HS.out.ne rfl rfl, by show gr ≠ we.heap.size; exact Nat.ne_of_lt l1, by show gc ≠ we.heap.size; exact Nat.ne_of_lt l2, (HS.out.s2 rfl).2, (HS.out.s5 rfl).2⟩
    have Hwg := Lib.hid hwg
    have Hgo := Lib.hid hgo
    clear hwg hgo
    go_wp2_with fail
    rw [← Hwg.out, ← Hgo.out]
    clear HS
    go_loopw [14, 17] (fun s i wr => ∃ q : Nat, i = .int .i64 q ∧ q ≤ N ∧ s = I (pcnt p q) ∧ GS w5 wr N gr gc go (dfl p (clsK E 1) q) (dfl p (clsK E 0) q)) (fun _ i _ => N - (intOf i).toNat)
    case atStart => exact ⟨0, rfl, by omega, rfl, HG0.out⟩
    case round =>
      clear HG0
      obtain ⟨q, rfl, hq, rfl, hg⟩ := hrel
      have hpl := pcnt_le p q
      have HGr := Lib.hid hg
      clear hg
      by_cases hqN : q < N
      · have hqz : (q : Int) < (N : Int) := by omega
        obtain ⟨a, ha⟩ : ∃ a, a = gi (clsK E 3) q := ⟨_, rfl⟩
        obtain ⟨b, hb5⟩ : ∃ b, b = gi (clsK E 3) x := ⟨_, rfl⟩
        obtain ⟨t, ht⟩ : ∃ t, t = !p q := ⟨_, rfl⟩
        have hab : (a != b) = t := by rw [ht]; exact Hpv.out q hqN a b ha hb5
        obtain ⟨bj, oj, rfl, hbj, _⟩ := RdI.at_ HJ.out (k := q) (by rw [clsK_length, HN.out]; exact hqN)
        have HF4 : Hid (∀ w', Below wr.heap.size wr w' → w'.cell? ⟨bj, oj + q, none⟩ = some (I a) ∧ w'.cell? ⟨bj, oj + x, none⟩ = some (I b)) := fun w' hS => by
          have hB := (HGr.out.below hS).bel
          rw [ha, hb5]
          exact ⟨RdI.at0 (Rd.below HJ.out hB) (by rw [clsK_length, HN.out]; exact hqN), RdI.at0 (Rd.below HJ.out hB) (by rw [clsK_length, HN.out]; exact hxl)⟩
        have Hst := Lib.hid (pcnt_step p q)
        clear ha hb5
        go_wp2_with fail
        refine wp_region_same [] rfl (by kernel_rfl) (by kernel_rfl) (by kernel_rfl) (fun w' => Below wr.heap.size wr w') _
          [.slice (some ⟨bj, oj, none⟩) N c5, I q, .pointer (some ⟨bj, oj + q, none⟩), I a, .slice (some ⟨bj, oj, none⟩) N c5, I x, .pointer (some ⟨bj, oj + x, none⟩), I b, .bool t]
          (by simp only [putAll, List.setIfInBounds_toArray, List.set_cons_succ, List.set_cons_zero]; rfl) (Below.refl _ _).drew ?hop ?hQ
        case hop =>
          refine FixBL.toL (fun w' w'' hS hb => hS.trans (hb.mono hS.size)) _ _ ?_
          refine ⟨.inr ?_, .inr ?_, .inr ?_, .inr ?_, .inr ?_, .inr ?_, .inr ?_, .inr ?_, .inr ?_, trivial⟩
          · (with_reducible refine FixB.of ?_ ?_; rfl; intro w' hS; obtain ⟨s0, s1⟩ := HF4.out _ hS; clear hS; unfold Oper.wp; go_simp; first | done | exact Below.refl _ _)
          · (with_reducible refine FixB.of ?_ ?_; rfl; intro w' hS; obtain ⟨s0, s1⟩ := HF4.out _ hS; clear hS; unfold Oper.wp; go_simp; first | done | exact Below.refl _ _)
          · (with_reducible refine FixB.of ?_ ?_; rfl; intro w' hS; obtain ⟨s0, s1⟩ := HF4.out _ hS; clear hS; unfold Oper.wp; go_simp; first | done | exact Below.refl _ _)
          · (with_reducible refine FixB.of ?_ ?_; rfl; intro w' hS; obtain ⟨s0, s1⟩ := HF4.out _ hS; clear hS; unfold Oper.wp; go_simp; first | done | exact Below.refl _ _)
          · (with_reducible refine FixB.of ?_ ?_; rfl; intro w' hS; obtain ⟨s0, s1⟩ := HF4.out _ hS; clear hS; unfold Oper.wp; go_simp; first | done | exact Below.refl _ _)
          · (with_reducible refine FixB.of ?_ ?_; rfl; intro w' hS; obtain ⟨s0, s1⟩ := HF4.out _ hS; clear hS; unfold Oper.wp; go_simp; first | done | exact Below.refl _ _)
          · (with_reducible refine FixB.of ?_ ?_; rfl; intro w' hS; obtain ⟨s0, s1⟩ := HF4.out _ hS; clear hS; unfold Oper.wp; go_simp; first | done | exact Below.refl _ _)
          · (with_reducible refine FixB.of ?_ ?_; rfl; intro w' hS; obtain ⟨s0, s1⟩ := HF4.out _ hS; clear hS; unfold Oper.wp; go_simp; first | done | exact Below.refl _ _)
          · (with_reducible refine FixB.of ?_ ?_; rfl; intro w' hS; obtain ⟨s0, s1⟩ := HF4.out _ hS; clear hS; unfold Oper.wp; go_simp; first | done | exact Below.refl _ _)
        case hQ =>
        intro wc hS _
        have HB4 := Lib.hid hS
        clear hS
        have HGc := Lib.hid (HGr.out.below HB4.out)
        clear HB4 HF4 hab HGr
        cases t
        · have hpq : p q = true := by simpa using ht.symm
          have Hcnt : Hid (((pcnt p (q + 1) : Nat) : Int) = (pcnt p q : Int) + 1) := by show _ = _; rw [Hst.out, if_pos hpq]; push_cast; rfl
          clear ht
          have v1 := clsK_val E 1 (i := q) (by rw [HN.out]; exact hqN)
          have v0 := clsK_val E 0 (i := q) (by rw [HN.out]; exact hqN)
          have u1 := cntK_bd E 1
          have u0 := cntK_bd E 0
          rw [HN.out] at u1 u0
          obtain ⟨rn, hrn⟩ : ∃ rn : Nat, (rn : Int) = gi (clsK E 1) q := ⟨(gi (clsK E 1) q).toNat, by omega⟩
          obtain ⟨ln, hln⟩ : ∃ ln : Nat, (ln : Int) = gi (clsK E 0) q := ⟨(gi (clsK E 0) q).toNat, by omega⟩
          have hrnN : rn < N := by omega
          have hlnN : ln < N := by omega
          have Hrn := Lib.hid hrn
          have Hln := Lib.hid hln
          obtain ⟨a1, ha1⟩ : ∃ a1, (dfl p (clsK E 1) q).length = a1 := ⟨_, rfl⟩
          obtain ⟨b1, hb1⟩ : ∃ b1, (dfl p (clsK E 0) q).length = b1 := ⟨_, rfl⟩
          have ha1l : a1 ≤ q := by rw [← ha1]; exact dfl_len _ _ _
          have hb1l : b1 ≤ q := by rw [← hb1]; exact dfl_len _ _ _
          have Ha := Lib.hid ha1
          have Hb := Lib.hid hb1
          have hrz : (rn : Int) < (N : Int) := by omega
          have hlz : (ln : Int) < (N : Int) := by omega
          obtain ⟨b4, o4, rfl, hb4, _⟩ := RdI.at_ HRi.out (k := q) (by rw [clsK_length, HN.out]; exact hqN)
          obtain ⟨b3, o3, rfl, hb3, _⟩ := RdI.at_ HL.out (k := q) (by rw [clsK_length, HN.out]; exact hqN)
          have x2 := RdI.at0 (Rd.below HRi.out HGc.out.bel) (k := q) (by rw [clsK_length, HN.out]; exact hqN)
          rw [← Hrn.out] at x2
          have x1 := HGc.out.r.cell hrnN
          have z1 := HGc.out.r.frozen rn
          clear v1 v0 u1 u0 hrn hln ha1 hb1
          by_cases hr : (rn : Int) ∈ dfl p (clsK E 1) q
          · by_cases hc : (ln : Int) ∈ dfl p (clsK E 0) q
            · have HA1 : Hid (dfl p (clsK E 1) (q + 1) = dfl p (clsK E 1) q) := dfl_old (by rw [← Hrn.out]; exact hr)
              rw [decide_eq_true hr] at x1
              have hg2 := HGc.out
              have x3 := RdI.at0 (Rd.below HL.out hg2.bel) (k := q) (by rw [clsK_length, HN.out]; exact hqN)
              rw [← Hln.out] at x3
              have x4 := hg2.c.cell hlnN
              have z4 := hg2.c.frozen ln
              have HA0 : Hid (dfl p (clsK E 0) (q + 1) = dfl p (clsK E 0) q) := dfl_old (by rw [← Hln.out]; exact hc)
              rw [decide_eq_true hc] at x4
              have hg4 := hg2
              rw [← HA1.out] at hg4
              rw [← HA0.out] at hg4
              have Hg4 := Lib.hid hg4
              clear hg2 hg4 hr hc hpq
              go_wp2_with fail
              refine ⟨⟨q + 1, by go_num, by omega, by rw [Hcnt.out], Hg4.out⟩, by simp [intOf]; omega⟩
            · have HA1 : Hid (dfl p (clsK E 1) (q + 1) = dfl p (clsK E 1) q) := dfl_old (by rw [← Hrn.out]; exact hr)
              rw [decide_eq_true hr] at x1
              have hg2 := HGc.out
              have x3 := RdI.at0 (Rd.below HL.out hg2.bel) (k := q) (by rw [clsK_length, HN.out]; exact hqN)
              rw [← Hln.out] at x3
              have x4 := hg2.c.cell hlnN
              have z4 := hg2.c.frozen ln
              have HA0 : Hid (dfl p (clsK E 0) (q + 1) = dfl p (clsK E 0) q ++ [(ln : Int)]) := by show _ = _; rw [dfl_new hpq (by rw [← Hln.out]; exact hc), ← Hln.out]
              rw [decide_eq_false hc] at x4
              obtain ⟨r3, r4, hg4⟩ := GS.col hg2 hlnN Hb.out rfl rfl
              rw [← HA1.out] at hg4
              rw [← HA0.out] at hg4
              have Hg4 := Lib.hid hg4
              clear hg2 hg4 hr hc hpq
              go_wp2_with fail
              refine ⟨⟨q + 1, by go_num, by omega, by rw [Hcnt.out], Hg4.out⟩, by simp [intOf]; omega⟩
          · by_cases hc : (ln : Int) ∈ dfl p (clsK E 0) q
            · have HA1 : Hid (dfl p (clsK E 1) (q + 1) = dfl p (clsK E 1) q ++ [(rn : Int)]) := by show _ = _; rw [dfl_new hpq (by rw [← Hrn.out]; exact hr), ← Hrn.out]
              rw [decide_eq_false hr] at x1
              obtain ⟨r1, r2, hg2⟩ := GS.row HGc.out hrnN Ha.out rfl rfl
              have x3 := RdI.at0 (Rd.below HL.out hg2.bel) (k := q) (by rw [clsK_length, HN.out]; exact hqN)
              rw [← Hln.out] at x3
              have x4 := hg2.c.cell hlnN
              have z4 := hg2.c.frozen ln
              have HA0 : Hid (dfl p (clsK E 0) (q + 1) = dfl p (clsK E 0) q) := dfl_old (by rw [← Hln.out]; exact hc)
              rw [decide_eq_true hc] at x4
              have hg4 := hg2
              rw [← HA1.out] at hg4
              rw [← HA0.out] at hg4
              have Hg4 := Lib.hid hg4
              clear hg2 hg4 hr hc hpq
              go_wp2_with fail
              refine ⟨⟨q + 1, by go_num, by omega, by rw [Hcnt.out], Hg4.out⟩, by simp [intOf]; omega⟩
            · have HA1 : Hid (dfl p (clsK E 1) (q + 1) = dfl p (clsK E 1) q ++ [(rn : Int)]) := by show _ = _; rw [dfl_new hpq (by rw [← Hrn.out]; exact hr), ← Hrn.out]
              rw [decide_eq_false hr] at x1
              obtain ⟨r1, r2, hg2⟩ := GS.row HGc.out hrnN Ha.out rfl rfl
              have x3 := RdI.at0 (Rd.below HL.out hg2.bel) (k := q) (by rw [clsK_length, HN.out]; exact hqN)
              rw [← Hln.out] at x3
              have x4 := hg2.c.cell hlnN
              have z4 := hg2.c.frozen ln
              have HA0 : Hid (dfl p (clsK E 0) (q + 1) = dfl p (clsK E 0) q ++ [(ln : Int)]) := by show _ = _; rw [dfl_new hpq (by rw [← Hln.out]; exact hc), ← Hln.out]
              rw [decide_eq_false hc] at x4
              obtain ⟨r3, r4, hg4⟩ := GS.col hg2 hlnN Hb.out rfl rfl
              rw [← HA1.out] at hg4
              rw [← HA0.out] at hg4
              have Hg4 := Lib.hid hg4
              clear hg2 hg4 hr hc hpq
              go_wp2_with fail
              refine ⟨⟨q + 1, by go_num, by omega, by rw [Hcnt.out], Hg4.out⟩, by simp [intOf]; omega⟩
        · have hpq : p q = false := by simpa using ht.symm
          have Hcnt : Hid (pcnt p (q + 1) = pcnt p q) := by show _ = _; rw [Hst.out, hpq]; first | done | rfl
          have Hg4 : Hid (GS w5 wc N gr gc go (dfl p (clsK E 1) (q + 1)) (dfl p (clsK E 0) (q + 1))) := by show GS _ _ _ _ _ _ _ _; rw [dfl_off hpq, dfl_off hpq]; exact HGc.out
          clear ht hpq
          go_wp2_with fail
          refine ⟨⟨q + 1, by go_num, by omega, by rw [Hcnt.out], Hg4.out⟩, by simp [intOf]; omega⟩
      · obtain rfl : q = N := by omega
        have hqz : ¬ ((q : Int) < (q : Int)) := by omega
        obtain ⟨a1, ha1⟩ : ∃ a1, (dfl p (clsK E 1) q).length = a1 := ⟨_, rfl⟩
        obtain ⟨b1, hb1⟩ : ∃ b1, (dfl p (clsK E 0) q).length = b1 := ⟨_, rfl⟩
        have ha1l : a1 ≤ q := by rw [← ha1]; exact dfl_len _ _ _
        have hb1l : b1 ≤ q := by rw [← hb1]; exact dfl_len _ _ _
        have ha1p : 0 < a1 := by rw [← ha1]; exact Hp1.out
        have hb1p : 0 < b1 := by rw [← hb1]; exact Hp2.out
        have hdv := Hdiv.out
        have hfi := Hfin.out
        rw [ha1, hb1] at hdv hfi
        obtain ⟨m, hmm⟩ : ∃ m, a1 * b1 = m := ⟨_, rfl⟩
        rw [hmm] at hdv
        obtain ⟨h, hh⟩ : ∃ h, hCnt E x = h := ⟨_, rfl⟩
        rw [hh] at hdv hfi
        have hmp : 0 < m := by rw [← hmm]; exact Nat.mul_pos ha1p hb1p
        have hml : m ≤ 90000 := by rw [← hmm]; exact Nat.le_trans (Nat.mul_le_mul ha1l hb1l) (Nat.le_trans (Nat.mul_le_mul hlen hlen) (by decide))
        obtain ⟨s, hs⟩ : ∃ s, pcnt p q = s := ⟨_, rfl⟩
        rw [hs] at hdv hpl ⊢
        have hhl : h ≤ 300 := by rw [← hdv]; exact Nat.le_trans (Nat.div_le_self _ _) (by omega)
        have hw1 : (a1 : Int) * (b1 : Int) = (m : Int) := by rw [← hmm]; push_cast; rfl
        have hq2 : (s : Int) / (m : Int) = (h : Int) := by rw [← hdv]; push_cast; rfl
        have hq1 : (s : Int).tdiv (m : Int) = (h : Int) := by rw [Int.tdiv_eq_ediv_of_nonneg (by omega)]; exact hq2
        have hm0 : ¬ (m = 0) := by omega
        have hwm : IntKind.i64.wrap (m : Int) = m := IntWalk.i64_in _ ⟨by omega, by omega⟩
        have hwh : IntKind.i64.wrap (h : Int) = h := IntWalk.i64_in _ ⟨by omega, by omega⟩
        have Hfi := Lib.hid hfi
        have hoo := HGr.out.o
        rw [ha1, hb1] at hoo
        have Hoo := Lib.hid hoo
        have HF4 : Hid (∀ w', Below wr.heap.size wr w' → w'.cell? ⟨go, 0, none⟩ = some (I a1) ∧ w'.cell? ⟨go, 1, none⟩ = some (I b1)) := fun w' hS =>
          ⟨(OwI.spotAt (hoo.below hS (Nat.le_refl _)) (k := 0) (by simp)).1, (OwI.spotAt (hoo.below hS (Nat.le_refl _)) (k := 1) (by simp)).1⟩
        have Hbg := Lib.hid HGr.out.bel
        have hzg := HGr.out.bel.size
        clear ha1 hb1 ha1p hb1p hdv hfi hmm hh hs hoo HGr Hp1 Hp2 Hdiv Hfin
        go_wp2_with fail
        refine wp_region_last [] rfl (by kernel_rfl) (by kernel_rfl) (by kernel_rfl) (by kernel_rfl) (fun w' => Below wr.heap.size wr w')
          (fun w' => ∃ w3, Below wr.heap.size wr w3 ∧ w' = w3.setCell ⟨go, 2, none⟩ (I h)) _
          [.slice (some ⟨go, 0, none⟩) 3 3, I s, .slice (some ⟨go, 0, none⟩) 3 3, .pointer (some ⟨go, 0, none⟩), I a1, .slice (some ⟨go, 0, none⟩) 3 3, .pointer (some ⟨go, 1, none⟩), I b1, I m, I h, .pointer (some ⟨go, 2, none⟩), undef]
          (by simp only [putAll, List.setIfInBounds_toArray, List.set_cons_succ, List.set_cons_zero]; rfl) (Below.refl _ _).drew 11 _ rfl rfl ?hop ?hst ?hQ
        case hop =>
          refine FixBL.toL (fun w' w'' hS hb => hS.trans (hb.mono hS.size)) _ _ ?_
          refine ⟨.inr ?_, .inr ?_, .inr ?_, .inr ?_, .inr ?_, .inr ?_, .inr ?_, .inr ?_, .inr ?_, .inr ?_, .inr ?_, .inl rfl, trivial⟩
          · (with_reducible refine FixB.of ?_ ?_; rfl; intro w' hS; obtain ⟨s0, s1⟩ := HF4.out _ hS; clear hS; unfold Oper.wp; go_simp; first | done | exact Below.refl _ _)
          · (with_reducible refine FixB.of ?_ ?_; rfl; intro w' hS; obtain ⟨s0, s1⟩ := HF4.out _ hS; clear hS; unfold Oper.wp; go_simp; first | done | exact Below.refl _ _)
          · (with_reducible refine FixB.of ?_ ?_; rfl; intro w' hS; obtain ⟨s0, s1⟩ := HF4.out _ hS; clear hS; unfold Oper.wp; go_simp; first | done | exact Below.refl _ _)
          · (with_reducible refine FixB.of ?_ ?_; rfl; intro w' hS; obtain ⟨s0, s1⟩ := HF4.out _ hS; clear hS; unfold Oper.wp; go_simp; first | done | exact Below.refl _ _)
          · (with_reducible refine FixB.of ?_ ?_; rfl; intro w' hS; obtain ⟨s0, s1⟩ := HF4.out _ hS; clear hS; unfold Oper.wp; go_simp; first | done | exact Below.refl _ _)
          · (with_reducible refine FixB.of ?_ ?_; rfl; intro w' hS; obtain ⟨s0, s1⟩ := HF4.out _ hS; clear hS; unfold Oper.wp; go_simp; first | done | exact Below.refl _ _)
          · (with_reducible refine FixB.of ?_ ?_; rfl; intro w' hS; obtain ⟨s0, s1⟩ := HF4.out _ hS; clear hS; unfold Oper.wp; go_simp; first | done | exact Below.refl _ _)
          · (with_reducible refine FixB.of ?_ ?_; rfl; intro w' hS; obtain ⟨s0, s1⟩ := HF4.out _ hS; clear hS; unfold Oper.wp; go_simp; first | done | exact Below.refl _ _)
          · (with_reducible refine FixB.of ?_ ?_; rfl; intro w' hS; obtain ⟨s0, s1⟩ := HF4.out _ hS; clear hS; unfold Oper.wp; go_simp; first | done | exact Below.refl _ _)
          · (with_reducible refine FixB.of ?_ ?_; rfl; intro w' hS; obtain ⟨s0, s1⟩ := HF4.out _ hS; clear hS; unfold Oper.wp; go_simp; first | done | exact Below.refl _ _)
          · (with_reducible refine FixB.of ?_ ?_; rfl; intro w' hS; obtain ⟨s0, s1⟩ := HF4.out _ hS; clear hS; unfold Oper.wp; go_simp; first | done | exact Below.refl _ _)
        case hst =>
          refine ⟨rfl, fun w' hS => ?_⟩
          obtain ⟨c0, z0, _, _, _⟩ := OwI.spotAt (Hoo.out.below hS (Nat.le_refl _)) (k := 2) (by simp)
          have Hs := Lib.hid hS
          clear hS
          unfold Oper.wp
          go_simp
          exact ⟨w', Hs.out, rfl⟩
        case hQ =>
        rintro w' ⟨w6, hb6, rfl⟩
        obtain ⟨_, _, _, hgo5, hst⟩ := OwI.spotAt (Hoo.out.below hb6 (Nat.le_refl _)) (k := 2) (by simp)
        have Hend := Lib.hid (hst h).rdA
        have Hbe := Lib.hid (Hbb.out.trans ((Hb5.out.trans (((Hbg.out.trans (hb6.mono hzg)).setCell (p := ⟨go, 2, none⟩) hgo5 (I h)).mono hz5)).mono Hbb.out.size))
        clear hb6 hst
        go_wp2_with fail
        go_ret2
        exact .mk (some ⟨go, 0, none⟩) 3 (by rw [HR.out, Hm.out] <;> rfl) (by rw [HR.out, Hfi.out]; exact Hend.out) Hbe.out
  · have hR := grR_bad hm
    have hne : (monC ms [f] != 0) = true := by simpa using hm
    have HR := Lib.hid hR
    clear hR hm
    go_enter Try.func31, Try.ntmps31
    go_wp2_with fail
    rw [← Hwb.out]
    refine (l03Given_any A (some ⟨w.heap.size + 1, 0, none⟩) n c 1 1 ms [f] wb Hx.out H7.out Hn.out rfl hb (by decide)).mono ?_
    rintro e w2 ⟨A', c', v, rfl, hr, hv, hb2⟩
    obtain ⟨Av, cv, hvv, _⟩ := hv.form
    subst hvv
    have Hbe := Lib.hid (Hbb.out.trans (hb2.mono Hbb.out.size))
    clear hr hv hb2
    go_wp2_with fail
    go_ret2
    exact .mk none 0 (by rw [HR.out] <;> rfl) (by rw [HR.out]; exact Rd.nil_) Hbe.out
end Go.Proofs.Ytneonacdjmfaoaa
