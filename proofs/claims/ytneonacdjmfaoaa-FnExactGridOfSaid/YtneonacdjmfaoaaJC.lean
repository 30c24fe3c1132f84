/- Contract of GridOf of the program; the lists are as the theorem states. -/
import Derived.Test.YtneonacdjmfaoaaJB
namespace Go.Proofs.Ytneonacdjmfaoaa
open Go.RowKit
set_option maxRecDepth 100000
set_option linter.unusedSimpArgs false
set_option linter.unusedVariables false

theorem PredC.up {fn : Nat} {caps : Array Value} {N : Nat} {p : Nat → Bool} {w w' : World} (h : PredC fn caps N p w) (hb : Below w.heap.size w w') : PredC fn caps N p w' :=
  ⟨h.1, fun w'' hb' => h.2 w'' (hb.trans (hb'.mono hb.size))⟩

/-- the state of the region that makes a grid's list -/
structure S7 (w0 : World) (E : List M) (L : List Int) (b1 b5 b10 : Bool) (s : Value × Value × Nat) (w : World) : Prop where
  bel : Below w0.heap.size w0 w
  v1 : b1 = true → OwI 2 w w0.heap.size s.1 (clsK E 1)
  v2 : b5 = true → OwI 2 w w0.heap.size s.2.1 (clsK E 0)
  q : b10 = true → OwI 2 w w0.heap.size (.slice (some ⟨s.2.2, 0, none⟩) 3 3) L
section
variable {w0 w w' : World} {E : List M} {L : List Int} {b1 b5 b10 : Bool} {s : Value × Value × Nat}
theorem S7.below (h : S7 w0 E L b1 b5 b10 s w) (hb : Below w.heap.size w w') : S7 w0 E L b1 b5 b10 s w' :=
  ⟨h.bel.trans (hb.mono h.bel.size), fun e => (h.v1 e).below hb (Nat.le_refl _), fun e => (h.v2 e).below hb (Nat.le_refl _), fun e => (h.q e).below hb (Nat.le_refl _)⟩
theorem S7.do1 (h : S7 w0 E L b1 b5 b10 s w) (hb : Below w.heap.size w w') {v : Value} (hv : OwI 2 w' w.heap.size v (clsK E 1)) : S7 w0 E L true b5 b10 (v, s.2.1, s.2.2) w' :=
  ⟨(h.below hb).bel, fun _ => hv.mono h.bel.size, (h.below hb).v2, (h.below hb).q⟩
theorem S7.do5 (h : S7 w0 E L b1 b5 b10 s w) (hb : Below w.heap.size w w') {v : Value} (hv : OwI 2 w' w.heap.size v (clsK E 0)) : S7 w0 E L b1 true b10 (s.1, v, s.2.2) w' :=
  ⟨(h.below hb).bel, (h.below hb).v1, fun _ => hv.mono h.bel.size, (h.below hb).q⟩
theorem S7.do10 {a b c : Int} (h : S7 w0 E [a, b, c] b1 b5 b10 s w) : S7 w0 E [a, b, c] b1 b5 true (s.1, s.2.1, w.heap.size) (w.alloc (.cells #[I a, I b, I c] 2)) := by
  have hb : Below w.heap.size w (w.alloc (.cells #[I a, I b, I c] 2)) := (Below.refl _ _).alloc (Nat.le_refl _) _
  exact ⟨(h.below hb).bel, (h.below hb).v1, (h.below hb).v2, fun _ => ⟨rfl, .inr ⟨w.heap.size, 3, #[I a, I b, I c], rfl, h.bel.size, Blk.new w _ _, Nat.le_refl _, by simp [maxLen], rfl, rfl⟩⟩⟩
end

set_option maxHeartbeats 2000000 in
theorem ImplGR_any (A : Option Addr) (n c : Nat) (ms : List M) (f : M) (w : World) (hx : RdM w w.heap.size A ms) (hn : ms.length = n) (hA : A = none → n = 0 ∧ c = 0) (hb : n < 536870912) :
    Calls Try.prog 32 #[.slice A n c, .agg (mc f)] w (RetI (grR ms f) (monC ms [f]) w) := by
  obtain ⟨wb, hwb⟩ : ∃ wb, wb = (w.alloc (.cells (mc f) 39)).alloc (.cells (mc f) 39) := ⟨_, rfl⟩
  have hbb : Below w.heap.size w wb := by rw [hwb]; exact ((Below.refl _ _).alloc (Nat.le_refl _) _).alloc (by simp) _
  have h7 : RdM wb wb.heap.size (some ⟨w.heap.size + 1, 0, none⟩) [f] := by rw [hwb]; exact rd_one (Blk.six (Blk.new' _ _ _ (by simp)))
  have Hx := Lib.hid (Rd.more (Rd.below hx hbb) hbb.size)
  have Hn := Lib.hid hn
  have HA := Lib.hid hA
  have H7 := Lib.hid h7
  have Hbb := Lib.hid hbb
  have Hwb := Lib.hid hwb
  clear hx hn hA h7 hbb hwb
  by_cases hc : monC ms [f] = 0
  · obtain ⟨E, ps, hE, hin⟩ := monC_el hc
    have hfE := hin f (by simp)
    have hlen := hE.len
    obtain ⟨x, hxx⟩ : ∃ x, x = ix E f := ⟨_, rfl⟩
    have hxl : x < E.length := by rw [hxx]; exact ix_lt hfE
    have hR : grR ms f = grL E x := by unfold grR; rw [if_pos hc, hE.r, ← hxx]
    obtain ⟨a, ha⟩ : ∃ a, a = (dfl (jP E x) (clsK E 1) E.length).length := ⟨_, rfl⟩
    obtain ⟨b, hb5⟩ : ∃ b, b = (dfl (jP E x) (clsK E 0) E.length).length := ⟨_, rfl⟩
    have hfull : (((List.range E.length).filter (hP E x)).map (gm E)).length = hCnt E x := by rw [List.length_map]; rfl
    obtain ⟨h, hh⟩ : ∃ h, hCnt E x = h := ⟨_, rfl⟩
    have hgl : grL E x = [(a : Int), (b : Int), (h : Int)] := by rw [ha, hb5, ← hh]; rfl
    rw [hh] at hfull
    have Hxx := Lib.hid hxx
    have HE := Lib.hid hE
    have Hc := Lib.hid hc
    have HR := Lib.hid hR
    have Ha := Lib.hid ha
    have Hb5 := Lib.hid hb5
    have Hgl := Lib.hid hgl
    have Hfull := Lib.hid hfull
    clear hE hc hR hin hxx hfE ha hb5 hgl hfull hh
    go_enter Try.func32, Try.ntmps32
    go_wp2_with fail
    rw [← Hwb.out]
    refine (monoidOf_any A (some ⟨w.heap.size + 1, 0, none⟩) n c 1 1 ms [f] wb Hx.out H7.out Hn.out rfl HA.out (fun h => (by cases h)) (by omega)).mono ?_
    rintro e w1 ⟨r, v, rfl, hb1, hr0, hs⟩
    obtain ⟨g0, rfl, hM, hv⟩ := hs ps HE.out.clo Hc.out
    rw [← HE.out.eq] at hM hv
    simp only [List.map_cons, List.map_nil] at hv
    rw [← Hxx.out] at hv
    rw [Hc.out]
    obtain ⟨Av, cv, hvv, hrv⟩ := hv.form
    subst hvv
    obtain ⟨bv, ov, e, hbv, c0⟩ := RdI.at_ hrv (k := 0) (by simp)
    subst e
    rw [Nat.add_zero] at c0
    simp only [List.length_singleton]
    obtain ⟨w2, hw2⟩ : ∃ w2, w2 = w1.alloc (.cells #[.slice (some ⟨bv, ov, none⟩) 1 cv] 56) := ⟨_, rfl⟩
    have hb2 : Below w1.heap.size w1 w2 := by rw [hw2]; exact (Below.refl _ _).alloc (Nat.le_refl _) _
    have C2 : w2.cell? ⟨w1.heap.size, 0, none⟩ = some (.slice (some ⟨bv, ov, none⟩) 1 cv) := by rw [hw2]; exact (Blk.new w1 _ _).cell 0
    have C4 : w2.cell? ⟨bv, ov, none⟩ = some (I x) := (hb2.cell (p := ⟨bv, ov, none⟩) hbv).trans c0
    have HM := Lib.hid (hM.below hb2 (Nat.le_refl _))
    have Hb2 := Lib.hid (hb1.trans (hb2.mono hb1.size))
    have Hw2 := Lib.hid hw2
    have D2 := Lib.hid C2
    have D4 := Lib.hid C4
    clear hM hs hr0 hv hrv hb1 c0 hw2 hb2 C2 C4
    go_wp2_with fail
    rw [← Hw2.out]
    refine (ideals_any w2 HM.out hlen HE.out.mnd).mono ?_
    rintro e w3 ⟨d, rfl, hI, hb3⟩
    obtain ⟨w4, hw4⟩ : ∃ w4, w4 = w3.alloc (.cells #[.pointer (some ⟨d, 0, none⟩)] 77) := ⟨_, rfl⟩
    have hb4 : Below w3.heap.size w3 w4 := by rw [hw4]; exact (Below.refl _ _).alloc (Nat.le_refl _) _
    have hb24 := hb3.trans (hb4.mono hb3.size)
    have C1 : w4.cell? ⟨w3.heap.size, 0, none⟩ = some (.pointer (some ⟨d, 0, none⟩)) := by rw [hw4]; exact (Blk.new w3 _ _).cell 0
    have E2 := (hb24.cell (p := ⟨w1.heap.size, 0, none⟩) (World.block_lt_of_cell? w2 _ D2.out)).trans D2.out
    have E4 := (hb24.cell (p := ⟨bv, ov, none⟩) (World.block_lt_of_cell? w2 _ D4.out)).trans D4.out
    have hI4 := hI.below hb4 (Nat.le_refl _)
    have hM4 := HM.out.below hb24 (Nat.le_refl _)
    have m1 := World.block_lt_of_cell? w4 _ C1
    have m2 := World.block_lt_of_cell? w4 _ E2
    have m4 := World.block_lt_of_cell? w4 _ E4
    have HP : Hid (PredC 65 #[.pointer (some ⟨w3.heap.size, 0, none⟩), .pointer (some ⟨w1.heap.size, 0, none⟩)] E.length (hP E x) w4) :=
      ⟨enters_of Try.func65 (by kernel_rfl) rfl, fun w' hb' k hk => gr2_any w' (hI4.below hb' (Nat.le_refl _)) hlen HE.out.mnd hk hxl ((hb'.cell m1).trans C1) ((hb'.cell m2).trans E2) ((hb'.cell m4).trans E4)⟩
    have HJ : Hid (PredC 64 #[.pointer (some ⟨w3.heap.size, 0, none⟩), .pointer (some ⟨w1.heap.size, 0, none⟩)] E.length (jP E x) w4) :=
      ⟨enters_of Try.func64 (by kernel_rfl) rfl, fun w' hb' k hk => gr1_any w' (hI4.below hb' (Nat.le_refl _)) hlen HE.out.mnd hk hxl ((hb'.cell m1).trans C1) ((hb'.cell m2).trans E2) ((hb'.cell m4).trans E4)⟩
    have HM4 := Lib.hid hM4
    have HI4 := Lib.hid hI4
    have Hw4 := Lib.hid hw4
    have HC1 := Lib.hid C1
    have Hb4 := Lib.hid (Hb2.out.trans (hb24.mono Hb2.out.size))
    have hpos := HE.out.pos
    clear hI hb3 hb4 hb24 C1 E2 E4 hI4 hM4 m2 m4 hw4
    go_wp2_with fail
    rw [← Hw4.out]
    refine (only_any _ _ _ w4 HM4.out hlen hpos HP.out).mono ?_
    rintro e w5 ⟨v, rfl, ho, hb5⟩
    obtain ⟨A5, c5, hv5, hr5⟩ := ho.form
    rw [Hfull.out] at hv5
    subst hv5
    have HC5 : Hid (w5.cell? ⟨w3.heap.size, 0, none⟩ = some (.pointer (some ⟨d, 0, none⟩))) := (hb5.cell (p := ⟨w3.heap.size, 0, none⟩) m1).trans HC1.out
    have hm5 : w3.heap.size < w5.heap.size := Nat.lt_of_lt_of_le m1 hb5.size
    have HI5 := Lib.hid (HI4.out.below hb5 (Nat.le_refl _))
    have HJ5 := Lib.hid (HJ.out.up hb5)
    have Hb5w := Lib.hid (Hbb.out.trans ((Hb4.out.trans (hb5.mono Hb4.out.size)).mono Hbb.out.size))
    have hz5 := Hb5w.out.size
    obtain ⟨N, hN⟩ : ∃ N, E.length = N := ⟨_, rfl⟩
    have HN := Lib.hid hN
    have hN3 : N ≤ 300 := by rw [← hN]; exact hlen
    clear hb5 hr5 ho hN HI4 HJ HP HM4
    go_wp2_with fail
    refine wp_region_flags [] rfl (by kernel_rfl) (by kernel_rfl) [] (by kernel_rfl) _
      (fun s : Value × Value × Nat => [.pointer (some ⟨d, 0, none⟩), s.1, .func (.func 64) #[] #[.pointer (some ⟨w3.heap.size, 0, none⟩), .pointer (some ⟨w1.heap.size, 0, none⟩)], I a, .pointer (some ⟨d, 0, none⟩), s.2.1, .func (.func 64) #[] #[.pointer (some ⟨w3.heap.size, 0, none⟩), .pointer (some ⟨w1.heap.size, 0, none⟩)], I b, .slice A5 h c5, I h, .slice (some ⟨s.2.2, 0, none⟩) 3 3, .slice (some ⟨s.2.2, 0, none⟩) 3 3, I 0])
      (by intro s; simp only [putAll, List.setIfInBounds_toArray, List.set_cons_succ, List.set_cons_zero]; rfl)
      [] rfl _
      (by intro s; simp only [setAll, List.setIfInBounds_toArray, List.set_cons_succ, List.set_cons_zero]; rfl) (by kernel_rfl)
      (fun d' s w' => S7 w5 E [(a : Int), (b : Int), (h : Int)] (d' 1) (d' 5) (d' 10) s w')
      (undef, undef, 0) ⟨(Below.refl _ _).drew, by simp, by simp, by simp⟩ ?hop ?hQ
    case hop =>
      refine ⟨?_, ?_, ?_, ?_, ?_, ?_, ?_, ?_, ?_, ?_, ?_, ?_, ?_, trivial⟩
      · refine ⟨rfl, Flag.pure (fun _ _ _ h => h) fun d c w' hd hdeps hcl hS => ?_⟩
        have s0 := (hS.bel.cell (p := ⟨w3.heap.size, 0, none⟩) hm5).trans HC5.out
        clear hS hdeps hcl hd
        unfold Oper.wp
        go_simp
        exact ⟨rfl, fun t ht => by injection ht with ht; subst ht; rfl, rfl⟩
      · refine ⟨rfl, fun d' s w' hd hdeps hcl hS => ?_⟩
        have HS := Lib.hid (show S7 w5 E [(a : Int), (b : Int), (h : Int)] (d' 1) (d' 5) (d' 10) s w' from hS)
        clear hS hdeps hcl
        unfold Oper.wp
        go_simp
        refine (classes_any w' (HI5.out.below HS.out.bel (Nat.le_refl _)) hlen HE.out.mnd).mono ?_
        rintro e w6 ⟨v, rfl, ho, hb6⟩
        refine FlagPost.own ((v, s.2.1, s.2.2) : Value × Value × Nat) 30 v rfl rfl rfl ?_ rfl
        exact HS.out.do1 hb6 ho
      · refine ⟨rfl, Flag.pure (fun _ _ _ h => h) fun d c w' hd hdeps hcl hS => ?_⟩
        skip
        clear hS hdeps hcl hd
        unfold Oper.wp
        go_simp
        exact ⟨rfl, fun t ht => by injection ht with ht; subst ht; rfl, rfl⟩
      · refine ⟨rfl, fun d' s w' hd hdeps hcl hS => ?_⟩
        have d1 := hdeps 1 (by kernel_rfl)
        have HS := Lib.hid (show S7 w5 E [(a : Int), (b : Int), (h : Int)] (d' 1) (d' 5) (d' 10) s w' from hS)
        have hv := HS.out.v1 d1
        obtain ⟨s1, s2, s3⟩ := s
        obtain ⟨A7, c7, hv7, hr7⟩ := hv.form
        rw [clsK_length, HN.out] at hv7
        simp only at hv7
        subst hv7
        have Hr7 := Lib.hid hr7
        clear hS hdeps hcl hv hr7
        unfold Oper.wp
        go_simp
        refine (different_any _ _ (jP E x) A7 N c7 (clsK E 1) w' Hr7.out (by rw [clsK_length, HN.out]) hN3 (HN.out ▸ HJ5.out.up HS.out.bel)).mono ?_
        rintro e w6 ⟨rfl, hb6⟩
        rw [← HN.out, ← Ha.out]
        refine FlagPost.own ((.slice A7 E.length c7, s2, s3) : Value × Value × Nat) 32 (I a) rfl rfl rfl ?_ rfl
        rw [HN.out]
        exact HS.out.below hb6
      · refine ⟨rfl, Flag.pure (fun _ _ _ h => h) fun d c w' hd hdeps hcl hS => ?_⟩
        have s0 := (hS.bel.cell (p := ⟨w3.heap.size, 0, none⟩) hm5).trans HC5.out
        clear hS hdeps hcl hd
        unfold Oper.wp
        go_simp
        exact ⟨rfl, fun t ht => by injection ht with ht; subst ht; rfl, rfl⟩
      · refine ⟨rfl, fun d' s w' hd hdeps hcl hS => ?_⟩
        have HS := Lib.hid (show S7 w5 E [(a : Int), (b : Int), (h : Int)] (d' 1) (d' 5) (d' 10) s w' from hS)
        clear hS hdeps hcl
        unfold Oper.wp
        go_simp
        refine (classes_any w' (HI5.out.below HS.out.bel (Nat.le_refl _)) hlen HE.out.mnd).mono ?_
        rintro e w6 ⟨v, rfl, ho, hb6⟩
        refine FlagPost.own ((s.1, v, s.2.2) : Value × Value × Nat) 34 v rfl rfl rfl ?_ rfl
        exact HS.out.do5 hb6 ho
      · refine ⟨rfl, Flag.pure (fun _ _ _ h => h) fun d c w' hd hdeps hcl hS => ?_⟩
        skip
        clear hS hdeps hcl hd
        unfold Oper.wp
        go_simp
        exact ⟨rfl, fun t ht => by injection ht with ht; subst ht; rfl, rfl⟩
      · refine ⟨rfl, fun d' s w' hd hdeps hcl hS => ?_⟩
        have d5 := hdeps 5 (by kernel_rfl)
        have HS := Lib.hid (show S7 w5 E [(a : Int), (b : Int), (h : Int)] (d' 1) (d' 5) (d' 10) s w' from hS)
        have hv := HS.out.v2 d5
        obtain ⟨s1, s2, s3⟩ := s
        obtain ⟨A7, c7, hv7, hr7⟩ := hv.form
        rw [clsK_length, HN.out] at hv7
        simp only at hv7
        subst hv7
        have Hr7 := Lib.hid hr7
        clear hS hdeps hcl hv hr7
        unfold Oper.wp
        go_simp
        refine (different_any _ _ (jP E x) A7 N c7 (clsK E 0) w' Hr7.out (by rw [clsK_length, HN.out]) hN3 (HN.out ▸ HJ5.out.up HS.out.bel)).mono ?_
        rintro e w6 ⟨rfl, hb6⟩
        rw [← HN.out, ← Hb5.out]
        refine FlagPost.own ((s1, .slice A7 E.length c7, s3) : Value × Value × Nat) 36 (I b) rfl rfl rfl ?_ rfl
        rw [HN.out]
        exact HS.out.below hb6
      · refine ⟨rfl, Flag.pure (fun _ _ _ h => h) fun d c w' hd hdeps hcl hS => ?_⟩
        skip
        clear hS hdeps hcl hd
        unfold Oper.wp
        go_simp
        exact ⟨rfl, fun t ht => by injection ht with ht; subst ht; rfl, rfl⟩
      · refine ⟨rfl, Flag.pure (fun _ _ _ h => h) fun d c w' hd hdeps hcl hS => ?_⟩
        skip
        clear hS hdeps hcl hd
        unfold Oper.wp
        go_simp
        exact ⟨rfl, fun t ht => by injection ht with ht; subst ht; rfl, rfl⟩
      · refine ⟨rfl, fun d' s w' hd hdeps hcl hS => ?_⟩
        have d11 := hcl.down (k := 11) (j := 10) rfl (by kernel_rfl) hd
        have HS := Lib.hid (show S7 w5 E [(a : Int), (b : Int), (h : Int)] (d' 1) (d' 5) (d' 10) s w' from hS)
        have hS2 := Lib.hid HS.out.do10
        clear hS hdeps hcl
        unfold Oper.wp
        go_simp
        refine FlagPost.two ((s.1, s.2.1, w'.heap.size) : Value × Value × Nat) 39 (.slice (some ⟨w'.heap.size, 0, none⟩) 3 3) 11 _ 4 rfl rfl rfl ?_ rfl rfl rfl (by decide) d11
        exact hS2.out
      · refine ⟨rfl, Flag.pure (fun _ _ _ h => h) fun d c w' hd hdeps hcl hS => ?_⟩
        skip
        clear hS hdeps hcl hd
        unfold Oper.wp
        go_simp
        exact ⟨rfl, fun t ht => by injection ht with ht; subst ht; rfl, rfl⟩
      · refine ⟨rfl, Flag.pure (fun _ _ _ h => h) fun d c w' hd hdeps hcl hS => ?_⟩
        skip
        clear hS hdeps hcl hd
        unfold Oper.wp
        go_simp
        exact ⟨rfl, fun t ht => by injection ht with ht; subst ht; rfl, rfl⟩
    case hQ =>
    intro fl s we hall hS
    have hS : S7 w5 E [(a : Int), (b : Int), (h : Int)] (fl 1) (fl 5) (fl 10) s we := hS
    rw [hall 10 (by decide)] at hS
    obtain ⟨s1, s2, q⟩ := s
    have Hq := Lib.hid ((hS.q rfl).mono hz5)
    have Hbe := Lib.hid (Hb5w.out.trans (hS.bel.mono hz5))
    clear hall hS
    go_wp2_with fail
    go_ret2
    exact .mk _ (by rw [Hc.out] <;> rfl) (by rw [HR.out, Hgl.out]; exact Hq.out) Hbe.out
  · have hR := grR_bad hc
    have hne : (monC ms [f] != 0) = true := by simpa using hc
    have HR := Lib.hid hR
    clear hR hc
    go_enter Try.func32, Try.ntmps32
    go_wp2_with fail
    rw [← Hwb.out]
    refine (monoidOf_any A (some ⟨w.heap.size + 1, 0, none⟩) n c 1 1 ms [f] wb Hx.out H7.out Hn.out rfl HA.out (fun h => (by cases h)) (by omega)).mono ?_
    rintro e w1 ⟨r, v, rfl, hb1, hr0, hs⟩
    obtain ⟨rfl, rfl⟩ := hr0 (by simpa using hne)
    have Hb2 := Lib.hid (Hbb.out.trans (hb1.mono Hbb.out.size))
    have Hb3 := Lib.hid (Hb2.out.alloc Hb2.out.size (.cells #[.slice none 0 0] 56))
    clear hb1 hr0 hs
    go_wp2_with fail
    go_ret2
    exact .mk _ rfl (by rw [HR.out]; exact OwI.nil_) Hb3.out
end Go.Proofs.Ytneonacdjmfaoaa
