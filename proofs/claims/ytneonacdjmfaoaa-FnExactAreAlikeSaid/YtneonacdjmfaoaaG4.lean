/- Contract of the ideals of a monoid's elements; the monoid has at most 300 elements. -/
import Derived.Test.YtneonacdjmfaoaaG3
namespace Go.Proofs.Ytneonacdjmfaoaa
open Go.RowKit
set_option maxRecDepth 100000
set_option linter.unusedSimpArgs false
set_option linter.unusedVariables false

theorem FlagPost.two2 {ops : Array Oper} {γ : Type} {F : γ → Array Value} {D : List Deferred} {S : (Nat → Bool) → γ → World → Prop} {i : Nat} {o : Oper} {d : Nat → Bool} {c : γ} {a' : Act} {w' : World} (c' : γ) (t : Nat) (v : Value) (k : Nat) (q : Oper) (t2 : Nat) (v2 : Value)
    (hd : a'.defers = D) (ho : o.dst = some t) (hv : a'.tmps.getD t undef = (F c').getD t undef) (hS : S (fun j => if j = i then true else d j) c' w') (hF : F c' = ((F c).setIfInBounds t v).setIfInBounds t2 v2)
    (hq : ops[k]? = some q) (hq2 : q.dst = some t2) (hk : k ≠ i) (hdk : d k = false) : FlagPost ops F D S i o d c a' w' :=
  ⟨c', [(t, v), (t2, v2)], ⟨hd, fun t' ht => by rw [ho] at ht; injection ht with ht; subst ht; exact hv⟩, hS, hF, fun p hp => by
    simp at hp
    rcases hp with rfl | rfl
    · exact .inl ho
    · exact .inr ⟨k, q, hq, hq2, hk, hdk⟩⟩

theorem Wds.five {w : World} {g n : Nat} {W : Nat → Nat → Nat} (h : Wds w g n W) {i : Nat} (hi : i < n) : w.cell? ⟨g, i * 5, none⟩ = some (U (W i 0)) ∧ w.cell? ⟨g, i * 5 + 1, none⟩ = some (U (W i 1)) ∧ w.cell? ⟨g, i * 5 + 2, none⟩ = some (U (W i 2)) ∧ w.cell? ⟨g, i * 5 + 3, none⟩ = some (U (W i 3)) ∧ w.cell? ⟨g, i * 5 + 4, none⟩ = some (U (W i 4)) :=
  ⟨h.cell hi (j := 0) (by decide), h.cell hi (j := 1) (by decide), h.cell hi (j := 2) (by decide), h.cell hi (j := 3) (by decide), h.cell hi (j := 4) (by decide)⟩

/-- the ideals of the elements E stand in block d -/
def IdeAt (w : World) (d : Nat) (E : List M) : Prop := ∃ gl gr gb, Ide w d E.length gl gr gb (lSet E) (rSet E) (jSet E)
theorem IdeAt.below {w w' : World} {d m : Nat} {E : List M} (h : IdeAt w d E) (hb : Below m w w') (hm : w.heap.size ≤ m) : IdeAt w' d E := by
  obtain ⟨gl, gr, gb, h⟩ := h
  exact ⟨gl, gr, gb, h.below hb hm⟩
def RetD (E : List M) (w : World) (e : Ending) (w' : World) : Prop := ∃ d, e = .returned (.pointer (some ⟨d, 0, none⟩)) ∧ IdeAt w' d E ∧ Below w.heap.size w w'

set_option maxHeartbeats 2000000 in
theorem ideals_any {n : Int} {B g : Nat} {E : List M} {us : List (List Int)} (w : World) (h : MonAt n B g E us w) (hE : E.length ≤ 300) (hm : Mnd n E) :
    Calls Try.prog 50 #[.pointer (some ⟨g, 0, none⟩)] w (RetD E w) := by
  have H := Lib.hid h
  have hpos := hm.pos
  obtain ⟨_, ev, wv, pl, vs, hM, hP, hO, _⟩ := h
  obtain ⟨gE, cE, rfl⟩ := hO.some_ hpos
  have c0 := hM.c0
  have Hm := Lib.hid hm
  have HE := Lib.hid hE
  obtain ⟨N, hN⟩ : ∃ N, E.length = N := ⟨_, rfl⟩
  rw [hN] at hpos hE c0
  have HN := Lib.hid hN
  clear hM hP hO hm hN
  go_enter Try.func50, Try.ntmps50
  go_wp2_with fail
  refine wp_region_flags [] rfl (by kernel_rfl) (by kernel_rfl) [] (by kernel_rfl) _
    (fun s : G2g => [I N, .slice (some ⟨s.q1, 0, none⟩) N N, I N, .slice (some ⟨s.q3, 0, none⟩) N N, I N, .slice (some ⟨s.q5, 0, none⟩) N N, .agg #[.slice (some ⟨s.q1, 0, none⟩) N N, .slice (some ⟨s.q3, 0, none⟩) N N, .slice (some ⟨s.q5, 0, none⟩) N N], .pointer (some ⟨s.q7, 0, none⟩), .pointer (some ⟨s.q7, 0, none⟩)])
    (by intro s; simp only [putAll, List.setIfInBounds_toArray, List.set_cons_succ, List.set_cons_zero]; rfl)
    [] rfl _
    (by intro s; simp only [setAll, List.setIfInBounds_toArray, List.set_cons_succ, List.set_cons_zero]; rfl) (by kernel_rfl)
    (fun d s w' => S2g w N (d 1) (d 3) (d 5) (d 7) s w')
    ⟨0, 0, 0, 0⟩ (S2g.start w N _) ?hop ?hQ
  case hop =>
    refine ⟨?_, ?_, ?_, ?_, ?_, ?_, ?_, ?_, ?_, trivial⟩
    · refine ⟨rfl, Flag.pure (fun _ _ _ h => h) fun d c w' hd hdeps hcl hS => ?_⟩
      skip
      clear hS hdeps hcl hd
      unfold Oper.wp
      go_simp
      exact ⟨rfl, fun t ht => by injection ht with ht; subst ht; rfl, rfl⟩
    · refine ⟨rfl, fun d s w' hd hdeps hcl hS => ?_⟩
      have d6 := hcl.down (k := 6) (j := 1) rfl (by kernel_rfl) hd
      have d7 := hcl.down (k := 7) (j := 6) rfl (by kernel_rfl) d6
      simp only [hd, d7] at hS
      refine wp_makeT (.tmp 15) (.tmp 15) rfl N rfl rfl (by omega) ?_
      intro w2 hs hg
      refine FlagPost.two2 ({ s with q1 := w'.heap.size } : G2g) 16 (.slice (some ⟨w'.heap.size, 0, none⟩) N N) 6 _ 21 (.agg #[.slice (some ⟨w'.heap.size, 0, none⟩) N N, .slice (some ⟨s.q3, 0, none⟩) N N, .slice (some ⟨s.q5, 0, none⟩) N N]) rfl rfl rfl ?_ rfl rfl rfl (by decide) d6
      show S2g _ _ true (d 3) (d 5) (d 7) _ _
      rw [d7]
      exact hS.do1 hs hg
    · refine ⟨rfl, Flag.pure (fun _ _ _ h => h) fun d c w' hd hdeps hcl hS => ?_⟩
      skip
      clear hS hdeps hcl hd
      unfold Oper.wp
      go_simp
      exact ⟨rfl, fun t ht => by injection ht with ht; subst ht; rfl, rfl⟩
    · refine ⟨rfl, fun d s w' hd hdeps hcl hS => ?_⟩
      have d6 := hcl.down (k := 6) (j := 3) rfl (by kernel_rfl) hd
      have d7 := hcl.down (k := 7) (j := 6) rfl (by kernel_rfl) d6
      simp only [hd, d7] at hS
      refine wp_makeT (.tmp 17) (.tmp 17) rfl N rfl rfl (by omega) ?_
      intro w2 hs hg
      refine FlagPost.two2 ({ s with q3 := w'.heap.size } : G2g) 18 (.slice (some ⟨w'.heap.size, 0, none⟩) N N) 6 _ 21 (.agg #[.slice (some ⟨s.q1, 0, none⟩) N N, .slice (some ⟨w'.heap.size, 0, none⟩) N N, .slice (some ⟨s.q5, 0, none⟩) N N]) rfl rfl rfl ?_ rfl rfl rfl (by decide) d6
      show S2g _ _ (d 1) true (d 5) (d 7) _ _
      rw [d7]
      exact hS.do3 hs hg
    · refine ⟨rfl, Flag.pure (fun _ _ _ h => h) fun d c w' hd hdeps hcl hS => ?_⟩
      skip
      clear hS hdeps hcl hd
      unfold Oper.wp
      go_simp
      exact ⟨rfl, fun t ht => by injection ht with ht; subst ht; rfl, rfl⟩
    · refine ⟨rfl, fun d s w' hd hdeps hcl hS => ?_⟩
      have d6 := hcl.down (k := 6) (j := 5) rfl (by kernel_rfl) hd
      have d7 := hcl.down (k := 7) (j := 6) rfl (by kernel_rfl) d6
      simp only [hd, d7] at hS
      refine wp_makeT (.tmp 19) (.tmp 19) rfl N rfl rfl (by omega) ?_
      intro w2 hs hg
      refine FlagPost.two2 ({ s with q5 := w'.heap.size } : G2g) 20 (.slice (some ⟨w'.heap.size, 0, none⟩) N N) 6 _ 21 (.agg #[.slice (some ⟨s.q1, 0, none⟩) N N, .slice (some ⟨s.q3, 0, none⟩) N N, .slice (some ⟨w'.heap.size, 0, none⟩) N N]) rfl rfl rfl ?_ rfl rfl rfl (by decide) d6
      show S2g _ _ (d 1) (d 3) true (d 7) _ _
      rw [d7]
      exact hS.do5 hs hg
    · refine ⟨rfl, Flag.pure (fun _ _ _ h => h) fun d c w' hd hdeps hcl hS => ?_⟩
      skip
      clear hS hdeps hcl hd
      unfold Oper.wp
      go_simp
      exact ⟨rfl, fun t ht => by injection ht with ht; subst ht; rfl, rfl⟩
    · refine ⟨rfl, fun d s w' hd hdeps hcl hS => ?_⟩
      have d6 := hdeps 6 (by kernel_rfl)
      have d1 := hcl.up (k := 6) (j := 1) rfl (by kernel_rfl) d6
      have d3 := hcl.up (k := 6) (j := 3) rfl (by kernel_rfl) d6
      have d5 := hcl.up (k := 6) (j := 5) rfl (by kernel_rfl) d6
      have d8 := hcl.down (k := 8) (j := 7) rfl (by kernel_rfl) hd
      simp only [d1, d3, d5, hd] at hS
      have hS2 := Lib.hid hS.do7
      clear hS hdeps hcl
      unfold Oper.wp
      go_simp
      refine FlagPost.two ({ s with q7 := w'.heap.size } : G2g) 22 (.pointer (some ⟨w'.heap.size, 0, none⟩)) 8 _ 4 rfl rfl rfl ?_ rfl rfl rfl (by decide) d8
      show S2g _ _ (d 1) (d 3) (d 5) true _ _
      rw [d1, d3, d5]
      exact hS2.out
    · refine ⟨rfl, Flag.pure (fun _ _ _ h => h) fun d c w' hd hdeps hcl hS => ?_⟩
      skip
      clear hS hdeps hcl hd
      unfold Oper.wp
      go_simp
      exact ⟨rfl, fun t ht => by injection ht with ht; subst ht; rfl, rfl⟩
  case hQ =>
    intro fl s we hall hS
    have hS : S2g w N (fl 1) (fl 3) (fl 5) (fl 7) s we := hS
    rw [hall 1 (by decide), hall 3 (by decide), hall 5 (by decide), hall 7 (by decide)] at hS
    clear hall
    obtain ⟨gl, gr, gb, d⟩ := s
    have Hbe := Lib.hid hS.bel
    obtain ⟨_, _, _, hd0, hI⟩ := hS.s7 rfl
    have HI := Lib.hid hI
    have hl0 : w.heap.size ≤ gl := (hS.s1 rfl).2
    have hr0 : w.heap.size ≤ gr := (hS.s3 rfl).2
    have hb0 : w.heap.size ≤ gb := (hS.s5 rfl).2
    clear hS hI
    go_wp2_with fail
    go_loopw [24] (fun t wr => ∃ i : Nat, t = .int .i64 i ∧ i ≤ N ∧ Below w.heap.size w wr ∧ Ide wr d N gl gr gb (lP E i 0) (rP E i 0) (fun _ _ => false)) (fun t _ => N - (intOf t).toNat)
    case atStart => exact ⟨0, rfl, by omega, Hbe.out, HI.out.congr (fun a _ p => (lP_zero E a p).symm) (fun a _ p => (rP_zero E a p).symm) (fun _ _ _ => rfl)⟩
    case round =>
      clear Hbe HI
      obtain ⟨i, rfl, hi, hb', hI'⟩ := hrel
      have Hbe := Lib.hid hb'
      have HI := Lib.hid hI'
      clear hb' hI'
      by_cases hiN : i < N
      · have hiz : (i : Int) < (N : Int) := by omega
        go_wp2_with fail
        go_loopw [28] (fun t wr => ∃ k : Nat, t = .int .i64 k ∧ k ≤ N ∧ Below w.heap.size w wr ∧ Ide wr d N gl gr gb (lP E i k) (rP E i k) (fun _ _ => false)) (fun t _ => N - (intOf t).toNat)
        case atStart => exact ⟨0, rfl, by omega, Hbe.out, HI.out⟩
        case round =>
          clear Hbe HI
          obtain ⟨k, rfl, hk, hb', hI'⟩ := hrel
          have Hbe := Lib.hid hb'
          have HI := Lib.hid hI'
          clear hb' hI'
          by_cases hkN : k < N
          · have hkz : (k : Int) < (N : Int) := by omega
            obtain ⟨p, hp⟩ : ∃ p, p = pix E i k := ⟨_, rfl⟩
            have hpl : p < 320 := by
              rw [hp]
              have := pix_lt Hm.out (i := i) (k := k) (by rw [HN.out]; exact hiN) (by rw [HN.out]; exact hkN)
              have := HE.out
              omega
            have Hp := Lib.hid hp
            clear hp
            go_wp2_with fail
            refine (product_any i k wr (H.out.below Hbe.out (Nat.le_refl _)) HE.out Hm.out (by rw [HN.out]; exact hiN) (by rw [HN.out]; exact hkN)).mono ?_
            rintro e w3 ⟨rfl, hb3⟩
            rw [show ix E (mul (gm E i) (gm E k)) = p from Hp.out.symm]
            have Hb3 := Lib.hid (Hbe.out.trans (hb3.mono Hbe.out.size))
            have HI3 := Lib.hid (HI.out.below hb3 (Nat.le_refl _))
            have e1 := HI3.out.c1
            clear hb3 Hbe HI
            go_wp2_with fail
            refine (put_any w3 HI3.out.r hiN hpl).mono ?_
            rintro e w4 ⟨rfl, hg4, hS4⟩
            have Hb4 := Lib.hid (bel_grown Hb3.out hg4 Hb3.out.size hr0)
            have HI4 := Lib.hid (HI3.out.setR hg4 hS4)
            have e0 := HI4.out.c0
            clear hg4 hS4 Hb3 HI3 e1
            go_wp2_with fail
            refine (put_any w4 HI4.out.l hkN hpl).mono ?_
            rintro e w5 ⟨rfl, hg5, hS5⟩
            have Hb5 := Lib.hid (bel_grown Hb4.out hg5 Hb4.out.size hl0)
            have HI5 : Hid (Ide w5 d N gl gr gb (lP E i (k + 1)) (rP E i (k + 1)) (fun _ _ => false)) := (HI4.out.setL hg5 hS5).congr
              (fun a _ q => by rw [Hp.out]; exact lP_step (by rw [HN.out]; exact hiN) a q) (fun a _ q => by rw [Hp.out]; exact rP_step (by rw [HN.out]; exact hkN) a q) (fun _ _ _ => rfl)
            clear hg5 hS5 Hb4 HI4 e0
            go_wp2_with fail
            go_roundw
            case rel => exact ⟨k + 1, by go_num, by omega, Hb5.out, HI5.out⟩
            case measure => simp [intOf]; omega
          · obtain rfl : k = N := by omega
            have hkz : ¬ ((k : Int) < (k : Int)) := by omega
            have HI5 : Hid (Ide wr d k gl gr gb (lP E (i + 1) 0) (rP E (i + 1) 0) (fun _ _ => false)) := HI.out.congr
              (fun a ha q => by have := lP_row E i (b := a) (by rw [HN.out]; exact ha) q; rwa [HN.out] at this) (fun a ha q => by have := rP_row E i a q; rwa [HN.out] at this) (fun _ _ _ => rfl)
            go_wp2_with fail
            go_roundw
            case rel => exact ⟨i + 1, by go_num, by omega, Hbe.out, HI5.out⟩
            case measure => simp [intOf]; omega
      · obtain rfl : i = N := by omega
        have hiz : ¬ ((i : Int) < (i : Int)) := by omega
        have HI2 : Hid (Ide wr d i gl gr gb (lSet E) (rSet E) (bP E 0 0)) := HI.out.congr
          (fun a ha q => by have := lP_end Hm.out (b := a) (by rw [HN.out]; exact ha) q; rwa [HN.out] at this) (fun a ha q => by have := rP_end Hm.out (a := a) (by rw [HN.out]; exact ha) q; rwa [HN.out] at this) (fun a _ q => (bP_zero E a q).symm)
        clear HI
        go_wp2_with fail
        go_loopw [54] (fun t wr => ∃ a : Nat, t = .int .i64 a ∧ a ≤ i ∧ Below w.heap.size w wr ∧ Ide wr d i gl gr gb (lSet E) (rSet E) (bP E a 0)) (fun t _ => i - (intOf t).toNat)
        case atStart => exact ⟨0, rfl, by omega, Hbe.out, HI2.out⟩
        case round =>
          clear Hbe HI2
          obtain ⟨a, rfl, ha, hb', hI'⟩ := hrel
          have Hbe := Lib.hid hb'
          have HI := Lib.hid hI'
          clear hb' hI'
          by_cases haN : a < i
          · have haz : (a : Int) < (i : Int) := by omega
            go_wp2_with fail
            go_loopw [58] (fun t wr => ∃ k : Nat, t = .int .i64 k ∧ k ≤ i ∧ Below w.heap.size w wr ∧ Ide wr d i gl gr gb (lSet E) (rSet E) (bP E a k)) (fun t _ => i - (intOf t).toNat)
            case atStart => exact ⟨0, rfl, by omega, Hbe.out, HI.out⟩
            case round =>
              clear Hbe HI
              obtain ⟨k, rfl, hk, hb', hI'⟩ := hrel
              have Hbe := Lib.hid hb'
              have HI := Lib.hid hI'
              have e1 := hI'.c1
              clear hb' hI'
              by_cases hkN : k < i
              · have hkz : (k : Int) < (i : Int) := by omega
                have hk3 : k < 320 := by have := HE.out; have := HN.out; omega
                go_wp2_with fail
                refine (has_any wr HI.out.r haN hk3).mono ?_
                rintro e w3 ⟨rfl, rfl⟩
                cases hrs : rSet E a k
                · have HI5 : Hid (Ide wr d i gl gr gb (lSet E) (rSet E) (bP E a (k + 1))) := HI.out.congr (fun _ _ _ => rfl) (fun _ _ _ => rfl) (fun b _ q => bP_skip hrs b q)
                  clear hrs HI e1
                  go_wp2_with fail
                  go_roundw
                  case rel => exact ⟨k + 1, by go_num, by omega, Hbe.out, HI5.out⟩
                  case measure => simp [intOf]; omega
                · have Hrs := Lib.hid hrs
                  have hkE : k < E.length := by rw [HN.out]; exact hkN
                  clear hrs e1
                  go_wp2_with fail
                  refine wp_region_last [] rfl (by kernel_rfl) (by kernel_rfl) (by kernel_rfl) (by kernel_rfl) (fun w' => Below wr.heap.size wr w')
                    (fun w' => ∃ w3, Below wr.heap.size wr w3 ∧ w3.grownBy w' (some gb) ∧ Sts w' gb i fun b q => bP E a k b q || (decide (b = a) && lSet E k q)) _
                    [.pointer (some ⟨d, 0, none⟩), .pointer (some ⟨d, 0, none⟩), .pointer (some ⟨d, 2, none⟩), .slice (some ⟨gb, 0, none⟩) i i, I a, .pointer (some ⟨gb, a * 5, none⟩), .pointer (some ⟨d, 0, none⟩), .pointer (some ⟨d, 0, none⟩), .pointer (some ⟨d, 0, none⟩), .slice (some ⟨gl, 0, none⟩) i i, I k, .pointer (some ⟨gl, k * 5, none⟩), .agg (sc (lSet E k)), .tuple #[]]
                    (by simp only [putAll, List.setIfInBounds_toArray, List.set_cons_succ, List.set_cons_zero]; rfl) (Below.refl _ _).drew 13 _ rfl rfl ?hop ?hst ?hQ
                  case hop =>
                    refine FixBL.toL (fun w' w'' hS hb => hS.trans (hb.mono hS.size)) _ _ ?_
                    refine ⟨.inr ?_, .inr ?_, .inr ?_, .inr ?_, .inr ?_, .inr ?_, .inr ?_, .inr ?_, .inr ?_, .inr ?_, .inr ?_, .inr ?_, .inr ?_, .inl rfl, trivial⟩
                    · (with_reducible refine FixB.of ?_ ?_; rfl; intro w' hS; have s9 := HI.out.below hS (Nat.le_refl _); have s0 := s9.c0; have s2 := s9.c2; have s5 := s9.l.five hkN; clear s9 hS; unfold Oper.wp; go_simp; first | done | exact Below.refl _ _)
                    · (with_reducible refine FixB.of ?_ ?_; rfl; intro w' hS; have s9 := HI.out.below hS (Nat.le_refl _); have s0 := s9.c0; have s2 := s9.c2; have s5 := s9.l.five hkN; clear s9 hS; unfold Oper.wp; go_simp; first | done | exact Below.refl _ _)
                    · (with_reducible refine FixB.of ?_ ?_; rfl; intro w' hS; have s9 := HI.out.below hS (Nat.le_refl _); have s0 := s9.c0; have s2 := s9.c2; have s5 := s9.l.five hkN; clear s9 hS; unfold Oper.wp; go_simp; first | done | exact Below.refl _ _)
                    · (with_reducible refine FixB.of ?_ ?_; rfl; intro w' hS; have s9 := HI.out.below hS (Nat.le_refl _); have s0 := s9.c0; have s2 := s9.c2; have s5 := s9.l.five hkN; clear s9 hS; unfold Oper.wp; go_simp; first | done | exact Below.refl _ _)
                    · (with_reducible refine FixB.of ?_ ?_; rfl; intro w' hS; have s9 := HI.out.below hS (Nat.le_refl _); have s0 := s9.c0; have s2 := s9.c2; have s5 := s9.l.five hkN; clear s9 hS; unfold Oper.wp; go_simp; first | done | exact Below.refl _ _)
                    · (with_reducible refine FixB.of ?_ ?_; rfl; intro w' hS; have s9 := HI.out.below hS (Nat.le_refl _); have s0 := s9.c0; have s2 := s9.c2; have s5 := s9.l.five hkN; clear s9 hS; unfold Oper.wp; go_simp; first | done | exact Below.refl _ _)
                    · (with_reducible refine FixB.of ?_ ?_; rfl; intro w' hS; have s9 := HI.out.below hS (Nat.le_refl _); have s0 := s9.c0; have s2 := s9.c2; have s5 := s9.l.five hkN; clear s9 hS; unfold Oper.wp; go_simp; first | done | exact Below.refl _ _)
                    · (with_reducible refine FixB.of ?_ ?_; rfl; intro w' hS; have s9 := HI.out.below hS (Nat.le_refl _); have s0 := s9.c0; have s2 := s9.c2; have s5 := s9.l.five hkN; clear s9 hS; unfold Oper.wp; go_simp; first | done | exact Below.refl _ _)
                    · (with_reducible refine FixB.of ?_ ?_; rfl; intro w' hS; have s9 := HI.out.below hS (Nat.le_refl _); have s0 := s9.c0; have s2 := s9.c2; have s5 := s9.l.five hkN; clear s9 hS; unfold Oper.wp; go_simp; first | done | exact Below.refl _ _)
                    · (with_reducible refine FixB.of ?_ ?_; rfl; intro w' hS; have s9 := HI.out.below hS (Nat.le_refl _); have s0 := s9.c0; have s2 := s9.c2; have s5 := s9.l.five hkN; clear s9 hS; unfold Oper.wp; go_simp; first | done | exact Below.refl _ _)
                    · (with_reducible refine FixB.of ?_ ?_; rfl; intro w' hS; have s9 := HI.out.below hS (Nat.le_refl _); have s0 := s9.c0; have s2 := s9.c2; have s5 := s9.l.five hkN; clear s9 hS; unfold Oper.wp; go_simp; first | done | exact Below.refl _ _)
                    · (with_reducible refine FixB.of ?_ ?_; rfl; intro w' hS; have s9 := HI.out.below hS (Nat.le_refl _); have s0 := s9.c0; have s2 := s9.c2; have s5 := s9.l.five hkN; clear s9 hS; unfold Oper.wp; go_simp; first | done | exact Below.refl _ _)
                    · (with_reducible refine FixB.of ?_ ?_; rfl; intro w' hS; have s9 := HI.out.below hS (Nat.le_refl _); have s0 := s9.c0; have s2 := s9.c2; have s5 := s9.l.five hkN; clear s9 hS; unfold Oper.wp; go_simp; first | done | exact Below.refl _ _)
                  case hst =>
                    refine ⟨rfl, fun w' hS => ?_⟩
                    have hI2 := Lib.hid (HI.out.below hS (Nat.le_refl _))
                    have Hs := Lib.hid hS
                    clear hS
                    unfold Oper.wp
                    go_simp
                    refine (add_any w' hI2.out.b haN).mono ?_
                    rintro e w4 ⟨rfl, hg, hS4⟩
                    exact ⟨rfl, w', Hs.out, hg, hS4⟩
                  case hQ =>
                    rintro w4 ⟨w3, hb3, hg4, hS4⟩
                    have hb3' := Hbe.out.trans (hb3.mono Hbe.out.size)
                    have Hb5 := Lib.hid (bel_grown hb3' hg4 hb3'.size hb0)
                    have HI5 : Hid (Ide w4 d i gl gr gb (lSet E) (rSet E) (bP E a (k + 1))) := ((HI.out.below hb3 (Nat.le_refl _)).setB hg4 hS4).congr (fun _ _ _ => rfl) (fun _ _ _ => rfl)
                      (fun b _ q => bP_step hkE Hrs.out b q)
                    clear hb3 hb3' hg4 hS4 HI Hbe Hrs
                    go_wp2_with fail
                    go_roundw
                    case rel => exact ⟨k + 1, by go_num, by omega, Hb5.out, HI5.out⟩
                    case measure => simp [intOf]; omega
              · obtain rfl : k = i := by omega
                have hkz : ¬ ((k : Int) < (k : Int)) := by omega
                have HI5 : Hid (Ide wr d k gl gr gb (lSet E) (rSet E) (bP E (a + 1) 0)) := HI.out.congr (fun _ _ _ => rfl) (fun _ _ _ => rfl)
                  (fun b hb q => by have := bP_row E a b q; rwa [HN.out] at this)
                clear e1
                go_wp2_with fail
                go_roundw
                case rel => exact ⟨a + 1, by go_num, by omega, Hbe.out, HI5.out⟩
                case measure => simp [intOf]; omega
          · obtain rfl : a = i := by omega
            have haz : ¬ ((a : Int) < (a : Int)) := by omega
            have HI5 : Hid (IdeAt wr d E) := by
              refine ⟨gl, gr, gb, ?_⟩
              rw [HN.out]
              exact HI.out.congr (fun _ _ _ => rfl) (fun _ _ _ => rfl) (fun b hb q => by have := bP_end Hm.out (a := b) (by rw [HN.out]; exact hb) q; rwa [HN.out] at this)
            clear HI
            go_wp2_with fail
            go_ret
            exact ⟨d, rfl, HI5.out, Hbe.out⟩
end Go.Proofs.Ytneonacdjmfaoaa
