/- Contract of a drawn order of at most five numbers; no conditions beyond those that the theorems state. Contracts of a drawn map; no conditions beyond those that the theorems state. Contracts of a map that seldom is none; no conditions beyond those that the theorems state. Contracts of the draws of single maps, of a map and an exponent, and of two maps for renumbering; no conditions beyond those that the theorems state. Contracts of the draws of two maps; no conditions beyond those that the theorems state. Contract of a drawn map with points; no conditions beyond those that the theorem states. Draws that hand on what l01With draws. The draw of a list of numbers. -/
import Derived.Test.YtahamedecibmnaaGreatQP04
import Derived.Deep.DeepAppendWide
import Derived.Deep.DeepCutAuto
set_option linter.unusedSimpArgs false
set_option linter.unusedVariables false
namespace Go.Proofs.YtahamedecibmnaaGreat
open Go.RowKit
set_option maxRecDepth 100000
set_option linter.unusedSimpArgs false
set_option linter.unusedVariables false
theorem cI_one3 {zs : List Int} : ∀ u ∈ cI zs, u.oneCell' = true := fun u hu => by
  obtain ⟨z, _, rfl⟩ := List.mem_map.1 hu
  rfl
theorem cI_app3 (xs ys : List Int) : cI (xs ++ ys) = cI xs ++ cI ys := by simp [cI]
theorem wp_catI3 {w : World} {o : Oper} {a : Act} {K : Act → World → Prop} {Q : Exit → Act → World → Prop} (s x : Operand)
    (ho : o.op = .call { callee := .builtin .append, args := #[s, x], argTypes := #[37, 37] }) (B : Nat) (v : Value) (ms xs : List Int) (hs : a.eval s = v) (hown : OwI 2 w B v ms)
    (g off n c : Nat) (hx : a.eval x = .slice (some ⟨g, off, none⟩) n c) (hc : ∀ j, j < xs.length → w.cell? ⟨g, off + j, none⟩ = some (I (gi xs j))) (hn : xs.length = n)
    (hb : ms.length + n < 1073741824) (hB : B ≤ w.heap.size)
    (h : ∀ v' w', OwI 2 w' B v' (ms ++ xs) → w.grownBy w' v.ownBlock → K (a.put o.dst v') w') : o.wp Tryz.prog a w K Q := by
  obtain ⟨i, hi, hz0, hz1, hz2⟩ := info_parts infoI
  subst hn
  refine wp_append_own_wide w s x 37 ho B 2 i (.int .i64 0) 1 8 Tryz.underlying37 hi hz0 hz1 hz2 rfl (by decide) v ms.length (cI ms) hs hown ⟨g, off, none⟩ xs.length c (cI xs) hx (by rw [cI_length]; omega) ?_ ?_ (by unfold maxLen; omega) (by omega) hB ?_
  · intro j u hj
    have hjl : j < xs.length := by
      rcases Nat.lt_or_ge j xs.length with h | h
      · exact h
      · rw [List.getElem?_eq_none (by rw [cI_length]; exact h)] at hj; cases hj
    rw [cI_get hjl] at hj
    injection hj with hj
    subst hj
    have := hc j hjl
    unfold Addr.add
    split
    · rename_i h0; subst h0; first | exact this | (simp; done) | (simp at this ⊢; exact this)
    · exact this
  · exact cI_one3
  · intro v' w' h1 h2 _
    refine h v' w' ?_ h2
    unfold OwI
    rw [cI_app3, List.length_append]
    exact h1
theorem wpList_catI3 {w : World} {ops : Array Oper} {rest : List Oper} {o : Oper} {a : Act} {Q : Exit → Act → World → Prop} (hgd : o.guard = none) (s x : Operand)
    (ho : o.op = .call { callee := .builtin .append, args := #[s, x], argTypes := #[37, 37] }) (B : Nat) (v : Value) (ms xs : List Int) (hs : a.eval s = v) (hown : OwI 2 w B v ms)
    (g off n c : Nat) (hx : a.eval x = .slice (some ⟨g, off, none⟩) n c) (hc : ∀ j, j < xs.length → w.cell? ⟨g, off + j, none⟩ = some (I (gi xs j))) (hn : xs.length = n)
    (hb : ms.length + n < 1073741824) (hB : B ≤ w.heap.size)
    (h : ∀ v' w', OwI 2 w' B v' (ms ++ xs) → w.grownBy w' v.ownBlock → wpList Tryz.prog ops Q rest (a.put o.dst v') w') : wpList Tryz.prog ops Q (o :: rest) a w :=
  wpList_plain hgd fun _ hK => wp_catI3 s x ho B v ms xs hs hown g off n c hx hc hn hb hB fun v' w' h2 h3 => hK _ _ (h v' w' h2 h3)
def RetV (zs : List Int) (w : World) (e : Ending) (w' : World) : Prop := ∃ v, e = .returned v ∧ OwI 2 w' w.heap.size v zs ∧ Below w.heap.size w w'
theorem own3_any (g n c : Nat) (zs : List Int) (w : World) (hc : ∀ j, j < zs.length → w.cell? ⟨g, j, none⟩ = some (I (gi zs j))) (hg : g < w.heap.size) (hn : zs.length = n) (hb : n ≤ 300) :
    Calls Tryz.prog 86 #[.slice (some ⟨g, 0, none⟩) n c] w (RetV zs w) := by
  have Hc := Lib.hid hc
  have Hn := Lib.hid hn
  clear hc hn
  go_enter Tryz.func86, Tryz.ntmps86
  go_wp2_with (at_builtin; refine wpList_catI3 rfl (.tmp 3) (.tmp 4) rfl w.heap.size (.slice (some ⟨w.heap.size, 0, none⟩) 0 0) [] zs rfl (OwI.made (Nat.le_refl _)) g 0 n c rfl (fun j hj => by rw [Nat.zero_add]; exact (World.cell?_alloc_lt _ _ _ hg).trans (Hc.out j hj)) Hn.out (by simp; omega) (by simp) ?_; intro v' w1 hown' hgr; have Ho1 := Lib.hid hown'; have Hb1 := Lib.hid (((OwI.made (e := 2) (Nat.le_refl w.heap.size))).bel ((Below.refl w.heap.size w).alloc (Nat.le_refl _) (.cells #[] 2)) hgr (Nat.le_refl _) (by simp)); clear hown' hgr)
  go_ret
  exact ⟨v', rfl, Ho1.out, Hb1.out⟩
structure OS where
  v1 : Value
  q : Nat
  v2 : Value
  v3 : Value
structure SO (w0 : World) (L : List Int) (a i : Nat) (b3 b5 b6 b10 : Bool) (s : OS) (w : World) : Prop where
  bel : Below w0.heap.size w0 w
  h3 : b3 = true → b6 = false → OwI 2 w w0.heap.size s.v1 (L.take a)
  h5 : b5 = true → b6 = false → Blk w s.q 2 #[I i] ∧ w0.heap.size ≤ s.q
  h6 : b6 = true → b10 = false → OwI 2 w w0.heap.size s.v2 (L.take a ++ [(i : Int)])
  h10 : b10 = true → OwI 2 w w0.heap.size s.v3 (L.take a ++ [(i : Int)] ++ L.drop a)
section
variable {w0 w w' : World} {L : List Int} {a i : Nat} {b3 b5 b6 b10 : Bool} {s : OS}
theorem SO.below (h : SO w0 L a i b3 b5 b6 b10 s w) (hb : Below w.heap.size w w') : SO w0 L a i b3 b5 b6 b10 s w' :=
  ⟨h.bel.trans (hb.mono h.bel.size), fun e e2 => (h.h3 e e2).below hb (Nat.le_refl _), fun e e2 => ⟨(h.h5 e e2).1.below hb (h.h5 e e2).1.lt, (h.h5 e e2).2⟩, fun e e2 => (h.h6 e e2).below hb (Nat.le_refl _), fun e => (h.h10 e).below hb (Nat.le_refl _)⟩
theorem SO.do3 (h : SO w0 L a i false b5 false false s w) (hb : Below w.heap.size w w') {v : Value} (hv : OwI 2 w' w.heap.size v (L.take a)) : SO w0 L a i true b5 false false { s with v1 := v } w' :=
  ⟨(h.below hb).bel, fun _ _ => hv.mono h.bel.size, (h.below hb).h5, (by simp), (by simp)⟩
theorem SO.do5 (h : SO w0 L a i b3 false false false s w) : SO w0 L a i b3 true false false { s with q := w.heap.size } (w.alloc (.cells #[I i] 2)) := by
  have hb : Below w.heap.size w (w.alloc (.cells #[I i] 2)) := (Below.refl _ _).alloc (Nat.le_refl _) _
  exact ⟨(h.below hb).bel, (h.below hb).h3, fun _ _ => ⟨Blk.new w _ _, h.bel.size⟩, (by simp), (by simp)⟩
theorem SO.do6 (h : SO w0 L a i true true false false s w) {v : Value} (hv : OwI 2 w' w0.heap.size v (L.take a ++ [(i : Int)])) (hg : w.grownBy w' s.v1.ownBlock) : SO w0 L a i true true true false { s with v2 := v } w' :=
  ⟨(h.h3 rfl rfl).bel h.bel hg (Nat.le_refl _) h.bel.size, (by simp), (by simp), fun _ _ => hv, (by simp)⟩
theorem SO.do10 (h : SO w0 L a i true true true false s w) {v : Value} (hv : OwI 2 w' w0.heap.size v (L.take a ++ [(i : Int)] ++ L.drop a)) (hg : w.grownBy w' s.v2.ownBlock) : SO w0 L a i true true true true { s with v3 := v } w' :=
  ⟨(h.h6 rfl rfl).bel h.bel hg (Nat.le_refl _) h.bel.size, (by simp), (by simp), (by simp), fun _ => hv⟩
end
theorem OwI.cap_le {e : TypeId} {w : World} {B g n c : Nat} {zs : List Int} (h : OwI e w B (.slice (some ⟨g, 0, none⟩) n c) zs) : n ≤ c := by
  rcases h.2 with ⟨h1, _⟩ | ⟨g', cap, cur, h1, _, _, h2, _⟩
  · cases h1
  · injection h1 with _ h3 h4
    omega
theorem gi_take {L : List Int} {a j : Nat} (h : j < a) : gi L j = gi (L.take a) j := by
  unfold gi
  rw [List.getD_eq_getElem?_getD, List.getD_eq_getElem?_getD, List.getElem?_take, if_pos h]
theorem gi_drop3 {L : List Int} {a j : Nat} : gi L (a + j) = gi (L.drop a) j := by
  unfold gi
  rw [List.getD_eq_getElem?_getD, List.getD_eq_getElem?_getD, List.getElem?_drop]
def RetOS (s : Nat) (A : Option Addr) (n c : Nat) (zs : List Int) (k : Nat) (w : World) (e : Ending) (w' : World) : Prop :=
  ∃ (g ci : Nat) (L : List Int), e = .returned (.slice (some ⟨g, 0, none⟩) k ci) ∧ OwI 2 w' w.heap.size (.slice (some ⟨g, 0, none⟩) k ci) L ∧ L.length = k ∧ Src w' s A n c zs ∧ w.grownBy w' (some s) ∧ ∀ z ∈ L, 0 ≤ z ∧ z < k
set_option maxHeartbeats 2000000 in
theorem orderS_any {s : Nat} {A : Option Addr} {n c : Nat} {zs : List Int} (k : Nat) (hk : k ≤ 5) (w : World) (hS : Src w s A n c zs) :
    Calls Tryz.prog 80 #[.pointer (some ⟨s, 0, none⟩), I k] w (RetOS s A n c zs k w) := by
  have HS := Lib.hid hS
  have hsl := hS.lt
  clear hS
  go_enter Tryz.func80, Tryz.ntmps80
  go_wp2_with fail
  go_loopw [5, 6] (fun v t wr => ∃ (i g ci : Nat) (L : List Int), t = .int .i64 i ∧ i ≤ k ∧ v = .slice (some ⟨g, 0, none⟩) i ci ∧ OwI 2 wr w.heap.size (.slice (some ⟨g, 0, none⟩) i ci) L ∧ L.length = i ∧ Src wr s A n c zs ∧ w.grownBy wr (some s) ∧ ∀ z ∈ L, 0 ≤ z ∧ z < i) (fun _ t _ => k - (intOf t).toNat)
  case atStart => exact ⟨0, w.heap.size, 0, [], rfl, Nat.zero_le _, rfl, OwI.made (Nat.le_refl _), rfl, HS.out.alloc _, World.grownBy_alloc w _ _, fun z hz => by cases hz⟩
  case round =>
    obtain ⟨i, g, ci, L, rfl, hi, rfl, ho, hl, hS, hg, hv⟩ := hrel
    have Hv := Lib.hid hv
    have HS := Lib.hid hS
    have Ho := Lib.hid ho
    have Hl := Lib.hid hl
    have Hg := Lib.hid hg
    have hszr := hg.size
    clear hS ho hl hg hv
    by_cases hik : i < k
    · have hiz : (i : Int) < (k : Int) := by omega
      go_wp2_with fail
      have hnx := next_any ((i : Int) + 1) wr HS.out
      refine hnx.mono ?_
      rintro e w1 ⟨r, rfl, hr, _, hS1, hg1⟩
      obtain ⟨hr0, hr1⟩ := hr (by omega)
      obtain ⟨a, ha⟩ : ∃ a : Nat, (a : Int) = r := ⟨r.toNat, by omega⟩
      subst ha
      have hai : a ≤ i := by omega
      have haz : (a : Int) ≤ (i : Int) := by omega
      have ho1 := OwI.keep Ho.out (fun q hq => hg1.block q (Ho.out.lt q hq).2 (by have := (Ho.out.lt q hq).1; intro e; injection e with e; omega))
      have hci := ho1.cap_le
      have hac : a ≤ ci := Nat.le_trans hai hci
      have hacz : (a : Int) ≤ (ci : Int) := by omega
      obtain ⟨oa, hoa, hoa2⟩ : ∃ oa, (if ci = a then (some ⟨g, 0, none⟩ : Option Addr) else some ⟨g, a, none⟩) = some ⟨g, oa, none⟩ ∧ (¬ ci = a → oa = a) := by
        by_cases e : ci = a
        · exact ⟨0, by rw [if_pos e], fun h => absurd e h⟩
        · exact ⟨a, by rw [if_neg e], fun _ => rfl⟩
      have Hoa2 := Lib.hid hoa2
      clear hoa2
      have hicz : (i : Int) ≤ (ci : Int) := by omega
      have hlt1 := (ho1.lt g rfl).2
      have Ho1 := Lib.hid ho1
      have HC : Hid (∀ w', Below w1.heap.size w1 w' → ∀ j, j < i → w'.cell? ⟨g, j, none⟩ = some (I (gi L j))) := fun w' hb j hj =>
        (hb.cell (p := ⟨g, j, none⟩) hlt1).trans (OwI.spotAt ho1 (k := j) (by rw [Hl.out]; exact hj)).1
      have HS1 := Lib.hid hS1
      have Hg1 := Lib.hid (grown_trans Hg.out hg1)
      have hz1 := Hg1.out.size
      have htl : (L.take a).length = a := by rw [List.length_take, Hl.out]; omega
      have hdl : (L.drop a).length = i - a := by rw [List.length_drop, Hl.out]
      have Htl := Lib.hid htl
      have Hdl := Lib.hid hdl
      clear hnx hr hr0 hr1 hS1 hg1 ho1 htl hdl
      go_wp2_with fail
      refine wp_region_flags [] rfl (by kernel_rfl) (by kernel_rfl) [5] (by kernel_rfl) _
        (fun o : OS => [.slice (some ⟨g, 0, none⟩) i ci, I a, .slice (some ⟨g, 0, none⟩) a ci, o.v1, I i, .slice (some ⟨o.q, 0, none⟩) 1 1, o.v2, .slice (some ⟨g, 0, none⟩) i ci, I a, .slice (some ⟨g, oa, none⟩) (i - a) (ci - a), o.v3, o.v3])
        (by intro o; simp only [putAll, List.setIfInBounds_toArray, List.set_cons_succ, List.set_cons_zero]; rfl)
        [(5, .slice (some ⟨g, 0, none⟩) i ci)] rfl _
        (by intro o; simp only [setAll, List.setIfInBounds_toArray, List.set_cons_succ, List.set_cons_zero]; rfl) (by kernel_rfl)
        (fun d o w' => SO w1 L a i (d 3) (d 5) (d 6) (d 10) o w')
        ⟨undef, 0, undef, undef⟩ ⟨(Below.refl _ _).drew, by simp, by simp, by simp, by simp⟩ ?hop ?hQ
      case hop =>
        refine ⟨?_, ?_, ?_, ?_, ?_, ?_, ?_, ?_, ?_, ?_, ?_, ?_, trivial⟩
        · refine ⟨rfl, Flag.pure (fun _ _ _ h => h) fun d c w' hd hdeps hcl hS => ?_⟩
          skip
          clear hS hdeps hcl hd
          unfold Oper.wp
          go_simp
          exact ⟨rfl, fun t ht => by injection ht with ht; subst ht; rfl, rfl⟩
        · refine ⟨rfl, Flag.pure (fun _ _ _ h => h) fun d c w' hd hdeps hcl hS => ?_⟩
          skip
          clear hS hdeps hcl hd
          unfold Oper.wp
          go_simp
          exact ⟨rfl, fun t ht => by injection ht with ht; subst ht; rfl, rfl⟩
        · refine ⟨rfl, Flag.pure (fun _ _ _ h => h) fun d c w' hd hdeps hcl hS => ?_⟩
          skip
          clear hS hdeps hcl hd
          unfold Oper.wp
          go_simp
          exact ⟨rfl, fun t ht => by injection ht with ht; subst ht; rfl, rfl⟩
        · refine ⟨rfl, fun d o w' hd hdeps hcl hS => ?_⟩
          have d6 := hcl.down (k := 6) (j := 3) rfl (by kernel_rfl) hd
          have d10 := hcl.down (k := 10) (j := 6) rfl (by kernel_rfl) d6
          have hS : SO w1 L a i (d 3) (d 5) (d 6) (d 10) o w' := hS
          rw [hd, d6, d10] at hS
          have HSO := Lib.hid hS
          clear hS hdeps hcl
          unfold Oper.wp
          go_simp
          refine (own3_any g a ci (L.take a) w' (fun j hj => ?_) (Nat.lt_of_lt_of_le hlt1 HSO.out.bel.size) Htl.out (by omega)).mono ?_
          · rw [Htl.out] at hj
            rw [HC.out w' HSO.out.bel j (by omega), gi_take hj]
          · rintro e w6 ⟨v, rfl, ho, hb6⟩
            refine FlagPost.own ({ o with v1 := v } : OS) 21 v rfl rfl rfl ?_ rfl
            show SO _ _ _ _ true (d 5) (d 6) (d 10) _ _
            rw [d6, d10]
            exact HSO.out.do3 hb6 ho
        · refine ⟨rfl, Flag.pure (fun _ _ _ h => h) fun d c w' hd hdeps hcl hS => ?_⟩
          skip
          clear hS hdeps hcl hd
          unfold Oper.wp
          go_simp
          exact ⟨rfl, fun t ht => by injection ht with ht; subst ht; rfl, rfl⟩
        · refine ⟨rfl, fun d o w' hd hdeps hcl hS => ?_⟩
          have d6 := hcl.down (k := 6) (j := 5) rfl (by kernel_rfl) hd
          have d10 := hcl.down (k := 10) (j := 6) rfl (by kernel_rfl) d6
          have hS : SO w1 L a i (d 3) (d 5) (d 6) (d 10) o w' := hS
          rw [hd, d6, d10] at hS
          have hS2 := Lib.hid hS.do5
          clear hS hdeps hcl
          unfold Oper.wp
          go_simp
          refine FlagPost.own ({ o with q := w'.heap.size } : OS) 23 (.slice (some ⟨w'.heap.size, 0, none⟩) 1 1) rfl rfl rfl ?_ rfl
          show SO _ _ _ _ (d 3) true (d 6) (d 10) _ _
          rw [d6, d10]
          exact hS2.out
        · refine ⟨rfl, fun d o w' hd hdeps hcl hS => ?_⟩
          have d3 := hdeps 3 (by kernel_rfl)
          have d5 := hdeps 5 (by kernel_rfl)
          have d10 := hcl.down (k := 10) (j := 6) rfl (by kernel_rfl) hd
          have hS : SO w1 L a i (d 3) (d 5) (d 6) (d 10) o w' := hS
          rw [d3, d5, hd, d10] at hS
          refine wp_catI3 (.tmp 21) (.tmp 23) rfl w1.heap.size o.v1 (L.take a) [(i : Int)] rfl (hS.h3 rfl rfl) o.q 0 1 1 rfl (fun j hj => ?_) rfl (by rw [Htl.out]; omega) hS.bel.size ?_
          · have hj0 : j = 0 := by simpa using hj
            subst hj0
            exact ((hS.h5 rfl rfl).1.cell 0)
          · intro v' w6 ho hg
            refine FlagPost.own ({ o with v2 := v' } : OS) 24 v' rfl rfl rfl ?_ rfl
            show SO _ _ _ _ (d 3) (d 5) true (d 10) _ _
            rw [d3, d5, d10]
            exact hS.do6 ho hg
        · refine ⟨rfl, Flag.pure (fun _ _ _ h => h) fun d c w' hd hdeps hcl hS => ?_⟩
          skip
          clear hS hdeps hcl hd
          unfold Oper.wp
          go_simp
          exact ⟨rfl, fun t ht => by injection ht with ht; subst ht; rfl, rfl⟩
        · refine ⟨rfl, Flag.pure (fun _ _ _ h => h) fun d c w' hd hdeps hcl hS => ?_⟩
          skip
          clear hS hdeps hcl hd
          unfold Oper.wp
          go_simp
          exact ⟨rfl, fun t ht => by injection ht with ht; subst ht; rfl, rfl⟩
        · refine ⟨rfl, Flag.pure (fun _ _ _ h => h) fun d c w' hd hdeps hcl hS => ?_⟩
          skip
          clear hS hdeps hcl hd
          unfold Oper.wp
          go_simp
          exact ⟨rfl, fun t ht => by injection ht with ht; subst ht; rfl, rfl⟩
        · refine ⟨rfl, fun d o w' hd hdeps hcl hS => ?_⟩
          have d6 := hdeps 6 (by kernel_rfl)
          have d3 := hcl.up (k := 6) (j := 3) rfl (by kernel_rfl) d6
          have d5 := hcl.up (k := 6) (j := 5) rfl (by kernel_rfl) d6
          have d11 := hcl.down (k := 11) (j := 10) rfl (by kernel_rfl) hd
          have hS : SO w1 L a i (d 3) (d 5) (d 6) (d 10) o w' := hS
          rw [d3, d5, d6, hd] at hS
          refine wp_catI3 (.tmp 24) (.tmp 27) rfl w1.heap.size o.v2 (L.take a ++ [(i : Int)]) (L.drop a) rfl (hS.h6 rfl rfl) g oa (i - a) (ci - a) rfl (fun j hj => ?_) Hdl.out (by rw [List.length_append, Htl.out, List.length_singleton]; omega) hS.bel.size ?_
          · rw [Hdl.out] at hj
            rw [Hoa2.out (by omega), HC.out w' hS.bel (a + j) (by omega), gi_drop3]
          · intro v' w6 ho hg
            refine FlagPost.two ({ o with v3 := v' } : OS) 28 v' 11 _ 5 rfl rfl rfl ?_ rfl rfl rfl (by decide) d11
            show SO _ _ _ _ (d 3) (d 5) (d 6) true _ _
            rw [d3, d5, d6]
            exact hS.do10 ho hg
        · refine ⟨rfl, Flag.pure (fun _ _ _ h => h) fun d c w' hd hdeps hcl hS => ?_⟩
          skip
          clear hS hdeps hcl hd
          unfold Oper.wp
          go_simp
          exact ⟨rfl, fun t ht => by injection ht with ht; subst ht; rfl, rfl⟩
      case hQ =>
      intro fl o we hall hS
      have hS : SO w1 L a i (fl 3) (fl 5) (fl 6) (fl 10) o we := hS
      rw [hall 10 (by decide)] at hS
      have ho := hS.h10 rfl
      have hll : (L.take a ++ [(i : Int)] ++ L.drop a).length = i + 1 := by rw [List.length_append, List.length_append, Htl.out, Hdl.out, List.length_singleton]; omega
      obtain ⟨v1, q1, v2, v3⟩ := o
      obtain ⟨A7, c7, hv7, _⟩ := ho.form
      rw [hll] at hv7
      simp only at hv7
      subst hv7
      obtain ⟨g7, rfl⟩ : ∃ g7, A7 = some ⟨g7, 0, none⟩ := by
        rcases ho.2 with ⟨h1, h0⟩ | ⟨g', cap, cur, h1, _⟩
        · omega
        · injection h1 with h2 _ _
          exact ⟨g', h2⟩
      have Ho7 := Lib.hid (ho.mono hz1)
      have HS7 := Lib.hid (HS1.out.below hS.bel)
      have Hg7 := Lib.hid (grown_trans Hg1.out (grown_below hS.bel _))
      have Hll := Lib.hid hll
      have Hvv : Hid (∀ z ∈ L.take a ++ [(i : Int)] ++ L.drop a, 0 ≤ z ∧ z < ((i + 1 : Nat) : Int)) := fun z hz => by
        simp only [List.mem_append, List.mem_singleton] at hz
        rcases hz with (hz | hz) | hz
        · have := Hv.out z (List.mem_of_mem_take hz); omega
        · omega
        · have := Hv.out z (List.mem_of_mem_drop hz); omega
      clear hall hS ho hll
      go_wp2_with fail
      go_roundw
      case rel => exact ⟨i + 1, g7, c7, _, by go_num, Nat.succ_le_of_lt hik, rfl, Ho7.out, Hll.out, HS7.out, Hg7.out, Hvv.out⟩
      case measure => simp [intOf]; omega
    · obtain rfl : i = k := by omega
      have hiz : ¬ ((i : Int) < (i : Int)) := by omega
      go_wp2_with fail
      go_ret
      exact ⟨g, ci, L, rfl, Ho.out, Hl.out, HS.out, Hg.out, Hv.out⟩
end Go.Proofs.YtahamedecibmnaaGreat

namespace Go.Proofs.YtahamedecibmnaaGreat
open Go.RowKit
set_option maxRecDepth 100000
set_option linter.unusedSimpArgs false
set_option linter.unusedVariables false
theorem OwI.lit {e : TypeId} {B : Nat} (w : World) (L : List Int) {n : Nat} (hn : L.length = n) (h1 : n ≤ 300) (hb : B ≤ w.heap.size) : OwI e (w.alloc (.cells (cI L).toArray e)) B (.slice (some ⟨w.heap.size, 0, none⟩) n n) L := by
  subst hn
  exact ⟨by rw [cI_length]; omega, .inr ⟨w.heap.size, L.length, (cI L).toArray, rfl, hb, Blk.new w _ _, Nat.le_refl _, by unfold maxLen; omega, by simp [cI_length], by simp [List.take_of_length_le, cI_length]⟩⟩
theorem OwI.rd4 {e : TypeId} {w : World} {B n c : Nat} {A : Option Addr} {zs : List Int} (h : OwI e w B (.slice A n c) zs) : RdI w w.heap.size A zs := by
  obtain ⟨A', c', e', hx⟩ := h.form
  injection e' with e1 e2 e3
  subst e1
  exact hx
def RetMp (s : Nat) (A : Option Addr) (n c : Nat) (zs : List Int) (P : M → Prop) (w : World) (e : Ending) (w' : World) : Prop := ∃ m : M, e = .returned (.agg (mc m)) ∧ P m ∧ Src w' s A n c zs ∧ w.grownBy w' (some s)
structure DM (w0 : World) (s : Nat) (A : Option Addr) (n c : Nat) (zs : List Int) (k : Nat) (m : M) (w : World) : Prop where
  src : Src w s A n c zs
  res : Blk w w0.heap.size 26 (mc M0)
  own : Blk w (w0.heap.size + 1) 26 (mc m)
  pts : m.p = k
  gr : w0.grownBy w (some s)
  low : s < w0.heap.size
  val : ∀ j, j < 5 → 0 ≤ m.at j ∧ m.at j < k
section
variable {w0 w w' : World} {s : Nat} {A : Option Addr} {n c : Nat} {zs : List Int} {k : Nat} {m : M}
theorem zero_val {k : Nat} (h1 : 1 ≤ k) (j : Nat) (hj : j < 5) : 0 ≤ (⟨k, 0, 0, 0, 0, 0⟩ : M).at j ∧ (⟨k, 0, 0, 0, 0, 0⟩ : M).at j < k := by
  have e : (⟨k, 0, 0, 0, 0, 0⟩ : M).at j = 0 := by
    obtain rfl | rfl | rfl | rfl | rfl : j = 0 ∨ j = 1 ∨ j = 2 ∨ j = 3 ∨ j = 4 := by omega
    all_goals rfl
  rw [e]; omega
theorem DM.next (h : DM w0 s A n c zs k m w) (hs : Src w' s A n c zs) (hg : w.grownBy w' (some s)) : DM w0 s A n c zs k m w' :=
  ⟨hs, h.res.grown hg (fun e => by have := h.low; injection e with e; omega), h.own.grown hg (fun e => by have := h.low; injection e with e; omega), h.pts, grown_trans h.gr hg, h.low, h.val⟩
theorem DM.set (h : DM w0 s A n c zs k m w) {j : Nat} (hj : j < 5) (v : Int) (hv : 0 ≤ v ∧ v < k) : DM w0 s A n c zs k (M.mk' m.p fun i => if i = j then v else m.at i) (w.setCell ⟨w0.heap.size + 1, 1 + j, none⟩ (I v)) :=
  ⟨h.src.cell_far (by have := h.low; show s < w0.heap.size + 1; omega) _, h.res.far (by show w0.heap.size ≠ w0.heap.size + 1; omega) _, (h.own.set_ (1 + j) (I v)).cast (by rw [← mk'_eta m]; exact mc_set m.p m.at v hj), h.pts,
    ⟨h.gr.os, h.gr.tape, h.gr.output, by simpa [World.setCell] using h.gr.size, fun q hq hne => (Below.heap_setCell _ _ _ q (by show q ≠ w0.heap.size + 1; omega)).trans (h.gr.block q hq hne)⟩, h.low,
    fun i hi => by
      rw [at_mk' _ _ hi]
      split
      · exact hv
      · exact h.val i hi⟩
theorem Src.st6 (h : Src w s A n c zs) {q : Nat} (hq : s < q) (m : M) : Src (st6 w q m) s A n c zs :=
  (((((h.cell_far (p := ⟨q, 0, none⟩) hq _).cell_far (p := ⟨q, 1, none⟩) hq _).cell_far (p := ⟨q, 2, none⟩) hq _).cell_far (p := ⟨q, 3, none⟩) hq _).cell_far (p := ⟨q, 4, none⟩) hq _).cell_far (p := ⟨q, 5, none⟩) hq _
theorem grown_far {w0 w : World} {row : Option Nat} (h : w0.grownBy w row) {p : Addr} (hp : w0.heap.size ≤ p.block) (v : Value) : w0.grownBy (w.setCell p v) row :=
  ⟨h.os, h.tape, h.output, by simpa [World.setCell] using h.size, fun q hq hne => (Below.heap_setCell _ _ _ q (by omega)).trans (h.block q hq hne)⟩
theorem grown_st6 {w0 w : World} {row : Option Nat} (h : w0.grownBy w row) {q : Nat} (hq : w0.heap.size ≤ q) (m : M) : w0.grownBy (st6 w q m) row :=
  grown_far (p := ⟨q, 5, none⟩) (grown_far (p := ⟨q, 4, none⟩) (grown_far (p := ⟨q, 3, none⟩) (grown_far (p := ⟨q, 2, none⟩) (grown_far (p := ⟨q, 1, none⟩) (grown_far (p := ⟨q, 0, none⟩) h hq _) hq _) hq _) hq _) hq _) hq _
theorem DM.st (h : DM w0 s A n c zs k m w) (m' : M) (hp : m'.p = k) (hv : ∀ j, j < 5 → 0 ≤ m'.at j ∧ m'.at j < k) : DM w0 s A n c zs k m' (st6 w (w0.heap.size + 1) m') :=
  ⟨h.src.st6 (by have := h.low; omega) m', (((((h.res.far (p := ⟨w0.heap.size + 1, 0, none⟩) (by simp) _).far (p := ⟨w0.heap.size + 1, 1, none⟩) (by simp) _).far (p := ⟨w0.heap.size + 1, 2, none⟩) (by simp) _).far (p := ⟨w0.heap.size + 1, 3, none⟩) (by simp) _).far (p := ⟨w0.heap.size + 1, 4, none⟩) (by simp) _).far (p := ⟨w0.heap.size + 1, 5, none⟩) (by simp) _, h.own.st6 m', hp, grown_st6 h.gr (by omega) m', h.low, hv⟩
theorem DM.fin (h : DM w0 s A n c zs k m w) (m' : M) (hp : m'.p = k) (hv : ∀ j, j < 5 → 0 ≤ m'.at j ∧ m'.at j < k) : RetMp s A n c zs (fun m => m.p = k ∧ ∀ j, j < 5 → 0 ≤ m.at j ∧ m.at j < k) w0 (.returned (.agg (mc m'))) (st6 w w0.heap.size m') :=
  ⟨m', rfl, ⟨hp, hv⟩, h.src.st6 h.low m', grown_st6 h.gr (Nat.le_refl _) m'⟩
end
set_option maxHeartbeats 4000000 in
theorem drawOfS_any {s : Nat} {A : Option Addr} {n c : Nat} {zs : List Int} (k : Nat) (h1 : 1 ≤ k) (h5 : k ≤ 5) (w : World) (hS : Src w s A n c zs) :
    Calls Tryz.prog 66 #[.pointer (some ⟨s, 0, none⟩), I k] w (RetMp s A n c zs (fun m => m.p = k ∧ ∀ j, j < 5 → 0 ≤ m.at j ∧ m.at j < k) w) := by
  have HS := Lib.hid hS
  have hsl := hS.lt
  clear hS
  go_enter Tryz.func66, Tryz.ntmps66
  go_wp2_with fail
  have D0 : DM w s A n c zs k ⟨k, 0, 0, 0, 0, 0⟩ ((w.alloc (.cells (mc M0) 26)).alloc (.cells (mc ⟨k, 0, 0, 0, 0, 0⟩) 26)) :=
    ⟨(HS.out.alloc _).alloc _, (Blk.new w _ _).alloc _, Blk.new' _ _ _ (by simp), rfl, grown_below (((Below.refl _ _).alloc (Nat.le_refl _) _).alloc (by simp) _) _, hsl, zero_val h1⟩
  refine (next_any 6 _ D0.src).mono ?_
  rintro e w1 ⟨r, rfl, hr, _, hS1, hg1⟩
  have D1 := Lib.hid (D0.next hS1 hg1)
  have hr6 := hr (by decide)
  clear hr hS1 hg1 D0
  by_cases r0 : r = 0
  · subst r0
    go_wp2_with fail
    refine (orderS_any k h5 w1 D1.out.src).mono ?_
    rintro e w2 ⟨g, ci, L, rfl, ho, hl, hS2, hg2, hv⟩
    have Hv : Hid (∀ j, j < 5 → 0 ≤ (made L).at j ∧ (made L).at j < k) := fun j hj => by
      rw [made_at hj]
      by_cases h : j < L.length
      · exact hv _ (by rw [gi_eq h]; exact List.getElem_mem _)
      · rw [gi_out (by omega)]; omega
    have D2 := Lib.hid (D1.out.next hS2 hg2)
    have Ho := Lib.hid ho
    have Hl := Lib.hid hl
    clear ho hl hS2 hg2 hv
    go_wp2_with fail
    refine (l01Made_any _ k ci L w2 (OwI.rd4 Ho.out) Hl.out h5).mono ?_
    rintro e w3 ⟨rfl, hb3⟩
    have D3 := Lib.hid (D2.out.next (D2.out.src.below hb3) (grown_below hb3 _))
    have Hp : Hid ((made L).p = k) := by show (made L).p = k; rw [made_p, Hl.out]
    obtain ⟨e0, e1, e2, e3, e4, e5⟩ := D3.out.res.six
    obtain ⟨z0, z1, z2, z3, z4, z5⟩ := D3.out.res.fr6
    generalize made L = m at *
    clear hb3
    go_wp2_with fail
    refine bodyPost_ret (v := .agg (mc m)) ?_ rfl (D3.out.fin m Hp.out Hv.out)
    simp [results, Tryz.results66, go_sem, *]
  by_cases r1 : r = 1
  · subst r1
    go_wp2_with fail
    refine (l01Identity_any k w1 (by omega) (by omega)).mono ?_
    rintro e w2 ⟨rfl, hb2⟩
    have D2 := D1.out.next (D1.out.src.below hb2) (grown_below hb2 _)
    have D3 := D2.st (one k) rfl (fun j hj => by rw [at_one _ hj]; split <;> omega)
    have DD := Lib.hid D3
    obtain ⟨e0, e1, e2, e3, e4, e5⟩ := D2.own.six
    obtain ⟨z0, z1, z2, z3, z4, z5⟩ := D2.own.fr6
    clear D2 D3 hb2
    have Hp : Hid ((one k).p = k) := by show (one k).p = k; rfl
    generalize one k = m at *
    go_wp2_with fail
    refine (next_any k _ DD.out.src).mono ?_
    rintro e w3 ⟨a, rfl, hr, _, hS3, hg3⟩
    obtain ⟨ha0, hak⟩ := hr (by omega)
    have D3 := Lib.hid (DD.out.next hS3 hg3)
    obtain ⟨j, hj⟩ : ∃ j : Nat, (j : Int) = a := ⟨a.toNat, by omega⟩
    subst hj
    have hj5 : j < 5 := by omega
    clear hr hS3 hg3 e0 e1 e2 e3 e4 e5 z0 z1 z2 z3 z4 z5 DD
    go_wp2_with fail
    go_loopw [7] (fun t wr => ∃ (i : Nat) (m : M), t = .int .i64 i ∧ i ≤ k ∧ DM w s A n c zs k m wr) (fun t _ => k - (intOf t).toNat)
    case atStart => exact ⟨0, m, rfl, Nat.zero_le _, D3.out⟩
    case round =>
      clear D3 Hp
      obtain ⟨i, m, rfl, hi, hD⟩ := hrel
      have D := Lib.hid hD
      clear hD
      by_cases hik : i < k
      · have hiz : (i : Int) < (k : Int) := by omega
        have hi5 : i < 5 := by omega
        go_wp2_with fail
        refine (next_any 2 _ D.out.src).mono ?_
        rintro e w4 ⟨b, rfl, hr, _, hS4, hg4⟩
        have D4 := Lib.hid (D.out.next hS4 hg4)
        clear hr hS4 hg4
        by_cases hb : b = 0
        · subst hb
          have c3 := D4.out.own.at_ hi5
          have z1 := D4.out.own.frozen (1 + i)
          go_wp2_with fail
          go_roundw
          case rel => exact ⟨i + 1, _, by go_num, Nat.succ_le_of_lt hik, D4.out.set hi5 j ⟨ha0, hak⟩⟩
          case measure => simp [intOf]; omega
        · go_wp2_with fail
          go_roundw
          case rel => exact ⟨i + 1, _, by go_num, Nat.succ_le_of_lt hik, D4.out⟩
          case measure => simp [intOf]; omega
      · have hiz : ¬ ((i : Int) < (k : Int)) := by omega
        obtain ⟨d0, d1, d2, d3, d4, d5⟩ := D.out.own.six
        obtain ⟨y0, y1, y2, y3, y4, y5⟩ := D.out.own.fr6
        obtain ⟨e0, e1, e2, e3, e4, e5⟩ := D.out.res.six
        obtain ⟨z0, z1, z2, z3, z4, z5⟩ := D.out.res.fr6
        obtain rfl | rfl | rfl | rfl | rfl : j = 0 ∨ j = 1 ∨ j = 2 ∨ j = 3 ∨ j = 4 := by omega
        · have D5 := D.out.set hj5 (0 : Nat) ⟨ha0, hak⟩
          go_wp2_with fail
          refine bodyPost_ret (v := .agg (mc (M.mk' m.p fun i => if i = 0 then ((0 : Nat) : Int) else m.at i))) ?_ rfl (D5.fin _ D.out.pts D5.val)
          simp [results, Tryz.results66, go_sem, *]
          exact ⟨rfl, rfl, rfl, rfl, rfl, rfl⟩
        · have D5 := D.out.set hj5 (1 : Nat) ⟨ha0, hak⟩
          go_wp2_with fail
          refine bodyPost_ret (v := .agg (mc (M.mk' m.p fun i => if i = 1 then ((1 : Nat) : Int) else m.at i))) ?_ rfl (D5.fin _ D.out.pts D5.val)
          simp [results, Tryz.results66, go_sem, *]
          exact ⟨rfl, rfl, rfl, rfl, rfl, rfl⟩
        · have D5 := D.out.set hj5 (2 : Nat) ⟨ha0, hak⟩
          go_wp2_with fail
          refine bodyPost_ret (v := .agg (mc (M.mk' m.p fun i => if i = 2 then ((2 : Nat) : Int) else m.at i))) ?_ rfl (D5.fin _ D.out.pts D5.val)
          simp [results, Tryz.results66, go_sem, *]
          exact ⟨rfl, rfl, rfl, rfl, rfl, rfl⟩
        · have D5 := D.out.set hj5 (3 : Nat) ⟨ha0, hak⟩
          go_wp2_with fail
          refine bodyPost_ret (v := .agg (mc (M.mk' m.p fun i => if i = 3 then ((3 : Nat) : Int) else m.at i))) ?_ rfl (D5.fin _ D.out.pts D5.val)
          simp [results, Tryz.results66, go_sem, *]
          exact ⟨rfl, rfl, rfl, rfl, rfl, rfl⟩
        · have D5 := D.out.set hj5 (4 : Nat) ⟨ha0, hak⟩
          go_wp2_with fail
          refine bodyPost_ret (v := .agg (mc (M.mk' m.p fun i => if i = 4 then ((4 : Nat) : Int) else m.at i))) ?_ rfl (D5.fin _ D.out.pts D5.val)
          simp [results, Tryz.results66, go_sem, *]
          exact ⟨rfl, rfl, rfl, rfl, rfl, rfl⟩
  by_cases r2 : r = 2
  · subst r2
    go_wp2_with fail
    refine (next_any k w1 D1.out.src).mono ?_
    rintro e w2 ⟨a, rfl, hr, _, hS2, hg2⟩
    have D2 := Lib.hid (D1.out.next hS2 hg2)
    have Ra := Lib.hid (hr (by omega))
    clear hr hS2 hg2
    go_wp2_with fail
    refine (next_any k w2 D2.out.src).mono ?_
    rintro e w3 ⟨b, rfl, hr, _, hS3, hg3⟩
    have D3 := Lib.hid (D2.out.next hS3 hg3)
    have Rb := Lib.hid (hr (by omega))
    clear hr hS3 hg3
    go_wp2_with fail
    go_loopw [10] (fun t wr => ∃ (i : Nat) (m : M), t = .int .i64 i ∧ i ≤ k ∧ DM w s A n c zs k m wr) (fun t _ => k - (intOf t).toNat)
    case atStart => exact ⟨0, _, rfl, Nat.zero_le _, D3.out⟩
    case round =>
      clear D3
      obtain ⟨i, m, rfl, hi, hD⟩ := hrel
      have D := Lib.hid hD
      clear hD
      by_cases hik : i < k
      · have hiz : (i : Int) < (k : Int) := by omega
        have hi5 : i < 5 := by omega
        have hsz : s < wr.heap.size := D.out.src.lt
        go_wp2_with fail
        have hb4 : Below wr.heap.size wr (wr.alloc (.cells (cI [a, b]).toArray 2)) := (Below.refl _ _).alloc (Nat.le_refl _) _
        have D4 := D.out.next (D.out.src.below hb4) (grown_below hb4 _)
        refine (pick_any wr.heap.size 2 2 [a, b] _ D4.src (OwI.lit wr [a, b] rfl (by decide) hsz) rfl (by decide) (by decide)).mono ?_
        rintro e w5 ⟨z, rfl, hzm, hS5, hg5⟩
        have D5 := Lib.hid (D4.next hS5 hg5)
        have Rz : Hid (0 ≤ z ∧ z < (k : Int)) := by
          show _ ∧ _
          simp only [List.mem_cons, List.not_mem_nil, or_false] at hzm
          rcases hzm with rfl | rfl
          · exact Ra.out
          · exact Rb.out
        clear hS5 hg5 D4 hb4 hzm
        have c3 := D5.out.own.at_ hi5
        have z1 := D5.out.own.frozen (1 + i)
        go_wp2_with fail
        go_roundw
        case rel => exact ⟨i + 1, _, by go_num, Nat.succ_le_of_lt hik, D5.out.set hi5 z Rz.out⟩
        case measure => simp [intOf]; omega
      · have hiz : ¬ ((i : Int) < (k : Int)) := by omega
        obtain ⟨d0, d1, d2, d3, d4, d5⟩ := D.out.own.six
        obtain ⟨e0, e1, e2, e3, e4, e5⟩ := D.out.res.six
        obtain ⟨z0, z1, z2, z3, z4, z5⟩ := D.out.res.fr6
        go_wp2_with fail
        refine bodyPost_ret (v := .agg (mc m)) ?_ rfl (D.out.fin m D.out.pts D.out.val)
        simp [results, Tryz.results66, go_sem, *]
  obtain rfl | rfl | rfl : r = 3 ∨ r = 4 ∨ r = 5 := by omega
  all_goals
    go_wp2_with fail
    go_loopw [11] (fun t wr => ∃ (i : Nat) (m : M), t = .int .i64 i ∧ i ≤ k ∧ DM w s A n c zs k m wr) (fun t _ => k - (intOf t).toNat)
    case atStart => exact ⟨0, _, rfl, Nat.zero_le _, D1.out⟩
    case round =>
      clear D1
      obtain ⟨i, m, rfl, hi, hD⟩ := hrel
      have D := Lib.hid hD
      clear hD
      by_cases hik : i < k
      · have hiz : (i : Int) < (k : Int) := by omega
        have hi5 : i < 5 := by omega
        go_wp2_with fail
        refine (next_any k _ D.out.src).mono ?_
        rintro e w5 ⟨b, rfl, hr, _, hS5, hg5⟩
        have D5 := Lib.hid (D.out.next hS5 hg5)
        have Rb := Lib.hid (hr (by omega))
        clear hr hS5 hg5
        have c3 := D5.out.own.at_ hi5
        have z1 := D5.out.own.frozen (1 + i)
        go_wp2_with fail
        go_roundw
        case rel => exact ⟨i + 1, _, by go_num, Nat.succ_le_of_lt hik, D5.out.set hi5 b Rb.out⟩
        case measure => simp [intOf]; omega
      · have hiz : ¬ ((i : Int) < (k : Int)) := by omega
        obtain ⟨d0, d1, d2, d3, d4, d5⟩ := D.out.own.six
        obtain ⟨e0, e1, e2, e3, e4, e5⟩ := D.out.res.six
        obtain ⟨z0, z1, z2, z3, z4, z5⟩ := D.out.res.fr6
        go_wp2_with fail
        refine bodyPost_ret (v := .agg (mc m)) ?_ rfl (D.out.fin m D.out.pts D.out.val)
        simp [results, Tryz.results66, go_sem, *]
theorem RetMp.weak {s : Nat} {A : Option Addr} {n c : Nat} {zs : List Int} {P Q : M → Prop} {w w' : World} {e : Ending} (h : RetMp s A n c zs P w e w') (hi : ∀ m, P m → Q m) : RetMp s A n c zs Q w e w' := by
  obtain ⟨m, a, b, c⟩ := h
  exact ⟨m, a, hi m b, c⟩
theorem drawOf_any {s : Nat} {A : Option Addr} {n c : Nat} {zs : List Int} (k : Nat) (h1 : 1 ≤ k) (h5 : k ≤ 5) (w : World) (hS : Src w s A n c zs) :
    Calls Tryz.prog 66 #[.pointer (some ⟨s, 0, none⟩), I k] w (RetMp s A n c zs (fun m => m.p = k) w) :=
  (drawOfS_any k h1 h5 w hS).mono fun e w' h => h.weak fun m hm => hm.1
theorem drawS_any {s : Nat} {A : Option Addr} {n c : Nat} {zs : List Int} (w : World) (hS : Src w s A n c zs) :
    Calls Tryz.prog 55 #[.pointer (some ⟨s, 0, none⟩)] w (RetMp s A n c zs (fun m => ∃ k : Nat, 1 ≤ k ∧ k ≤ 5 ∧ m.p = k ∧ ∀ j, j < 5 → 0 ≤ m.at j ∧ m.at j < k) w) := by
  have HS := Lib.hid hS
  have hsl := hS.lt
  clear hS
  go_enter Tryz.func55, Tryz.ntmps55
  go_wp2_with fail
  have hb0 : Below w.heap.size w (w.alloc (.cells (mc M0) 26)) := (Below.refl _ _).alloc (Nat.le_refl _) _
  have hb1 : Below w.heap.size w ((w.alloc (.cells (mc M0) 26)).alloc (.cells (cI [1, 2, 3, 3, 4, 4, 5, 5]).toArray 2)) := hb0.alloc (by simp) _
  have hbl : Blk ((w.alloc (.cells (mc M0) 26)).alloc (.cells (cI [1, 2, 3, 3, 4, 4, 5, 5]).toArray 2)) w.heap.size 26 (mc M0) := (Blk.new w _ _).alloc _
  have ho := OwI.lit (e := 2) (B := s + 1) (w.alloc (.cells (mc M0) 26)) [1, 2, 3, 3, 4, 4, 5, 5] (n := 8) rfl (by decide) (by simp; omega)
  rw [show (w.alloc (.cells (mc M0) 26)).heap.size = w.heap.size + 1 by simp] at ho
  refine (pick_any (w.heap.size + 1) 8 8 [1, 2, 3, 3, 4, 4, 5, 5] _ (HS.out.below hb1) ho rfl (by decide) (by decide)).mono ?_
  rintro e w2 ⟨r, rfl, hr, hS2, hg2⟩
  obtain ⟨k, rfl, hk1, hk5⟩ : ∃ k : Nat, r = k ∧ 1 ≤ k ∧ k ≤ 5 := by
    simp only [List.mem_cons, List.not_mem_nil, or_false] at hr
    exact ⟨r.toNat, by omega, by omega, by omega⟩
  have Hg := Lib.hid (grown_trans (grown_below hb1 _) hg2)
  have Hb2 := Lib.hid (hbl.grown hg2 (fun e => by injection e with e; omega))
  have HS2 := Lib.hid hS2
  clear hr hS2 hg2 hb0 hb1 hbl ho
  go_wp2_with fail
  refine (drawOfS_any k hk1 hk5 w2 HS2.out).mono ?_
  rintro e w3 ⟨m, rfl, hp, hS3, hg3⟩
  have Hb3 := Hb2.out.grown hg3 (fun e => by injection e with e; omega)
  obtain ⟨e0, e1, e2, e3, e4, e5⟩ := Hb3.six
  obtain ⟨z0, z1, z2, z3, z4, z5⟩ := Hb3.fr6
  have HS3 := Lib.hid hS3
  have Hg3 := Lib.hid (grown_trans Hg.out hg3)
  have Hp := Lib.hid hp
  clear hS3 hg3 Hb3 hp
  go_wp2_with fail
  refine bodyPost_ret (v := .agg (mc m)) ?_ rfl ⟨m, rfl, ⟨k, hk1, hk5, Hp.out.1, Hp.out.2⟩, HS3.out.st6 hsl m, grown_st6 Hg3.out (Nat.le_refl _) m⟩
  simp [results, Tryz.results55, go_sem, *]
theorem draw_any {s : Nat} {A : Option Addr} {n c : Nat} {zs : List Int} (w : World) (hS : Src w s A n c zs) :
    Calls Tryz.prog 55 #[.pointer (some ⟨s, 0, none⟩)] w (RetMp s A n c zs (fun m => ∃ k : Nat, 1 ≤ k ∧ k ≤ 5 ∧ m.p = k) w) :=
  (drawS_any w hS).mono fun e w' h => h.weak fun m ⟨k, a, b, c, _⟩ => ⟨k, a, b, c⟩
end Go.Proofs.YtahamedecibmnaaGreat

namespace Go.Proofs.YtahamedecibmnaaGreat
open Go.RowKit
set_option maxRecDepth 100000
set_option linter.unusedSimpArgs false
set_option linter.unusedVariables false
structure BG where
  j : Nat
  q : Nat
  v : Int
structure SB (w0 : World) (s : Nat) (A : Option Addr) (n c : Nat) (zs : List Int) (f : M) (b1 b5 b6 b9 : Bool) (o : BG) (w : World) : Prop where
  src : Src w s A n c zs
  gr : w0.grownBy w (some s)
  low : s < w0.heap.size
  two : w0.heap.size + 2 ≤ w.heap.size
  res : Blk w (w0.heap.size + 1) 26 (mc M0)
  own : ∃ m, Blk w w0.heap.size 26 (mc m) ∧ (b9 = false → m = f)
  h1 : b1 = true → o.j < 5
  h5 : b5 = true → b6 = false → OwI 2 w (w0.heap.size + 2) (.slice (some ⟨o.q, 0, none⟩) 3 3) [-1, f.p, 1099511627776]
section
variable {w0 w w' : World} {s : Nat} {A : Option Addr} {n c : Nat} {zs : List Int} {f : M} {b1 b5 b6 b9 : Bool} {o : BG}
theorem SB.next (h : SB w0 s A n c zs f b1 b5 b6 b9 o w) (hs : Src w' s A n c zs) (hg : w.grownBy w' (some s)) : SB w0 s A n c zs f b1 b5 b6 b9 o w' :=
  ⟨hs, grown_trans h.gr hg, h.low, Nat.le_trans h.two hg.size, h.res.grown hg (fun e => by have := h.low; injection e with e; omega),
    by obtain ⟨m, hm, he⟩ := h.own; exact ⟨m, hm.grown hg (fun e => by have := h.low; injection e with e; omega), he⟩, h.h1,
    fun e1 e2 => OwI.keep (h.h5 e1 e2) (fun q hq => hg.block q ((h.h5 e1 e2).lt q hq).2 (by have := ((h.h5 e1 e2).lt q hq).1; have := h.low; intro e; injection e with e; omega))⟩
theorem SB.pts (h : SB w0 s A n c zs f b1 b5 b6 false o w) : Blk w w0.heap.size 26 (mc f) := by
  obtain ⟨m, hm, he⟩ := h.own
  rwa [he rfl] at hm
theorem SB.do1 (h : SB w0 s A n c zs f false b5 b6 b9 o w) (hs : Src w' s A n c zs) (hg : w.grownBy w' (some s)) {j : Nat} (hj : j < 5) : SB w0 s A n c zs f true b5 b6 b9 { o with j := j } w' := by
  have k := h.next hs hg
  exact ⟨k.src, k.gr, k.low, k.two, k.res, k.own, fun _ => hj, k.h5⟩
theorem SB.do5 (h : SB w0 s A n c zs f b1 false false b9 o w) : SB w0 s A n c zs f b1 true false b9 { o with q := w.heap.size } (w.alloc (.cells (cI [-1, f.p, 1099511627776]).toArray 2)) := by
  have hb : Below w.heap.size w (w.alloc (.cells (cI [-1, f.p, 1099511627776]).toArray 2)) := (Below.refl _ _).alloc (Nat.le_refl _) _
  have k := h.next (h.src.below hb) (grown_below hb _)
  exact ⟨k.src, k.gr, k.low, k.two, k.res, k.own, k.h1, fun _ _ => OwI.lit w [-1, f.p, 1099511627776] rfl (by decide) h.two⟩
theorem SB.do6 (h : SB w0 s A n c zs f b1 true false b9 o w) (hs : Src w' s A n c zs) (hg : w.grownBy w' (some s)) (v : Int) : SB w0 s A n c zs f b1 true true b9 { o with v := v } w' := by
  have k := h.next hs hg
  exact ⟨k.src, k.gr, k.low, k.two, k.res, k.own, k.h1, by simp⟩
theorem SB.do9 (h : SB w0 s A n c zs f true true true false o w) : SB w0 s A n c zs f true true true true o (w.setCell ⟨w0.heap.size, 1 + o.j, none⟩ (I o.v)) := by
  have hj := h.h1 rfl
  exact ⟨h.src.cell_far h.low _, grown_far h.gr (Nat.le_refl _) _, h.low, by simpa [World.setCell] using h.two, h.res.far (by simp) _,
    ⟨_, (h.pts.set_ (1 + o.j) (I o.v)).cast (by rw [← mk'_eta f]; exact mc_set f.p f.at o.v hj), by simp⟩, h.h1, by simp⟩
end
set_option maxHeartbeats 400000 in
theorem bad_any {s : Nat} {A : Option Addr} {n c : Nat} {zs : List Int} (f : M) (w : World) (hS : Src w s A n c zs) :
    Calls Tryz.prog 67 #[.pointer (some ⟨s, 0, none⟩), .agg (mc f)] w (RetMp s A n c zs (fun _ => True) w) := by
  have HS := Lib.hid hS
  have hsl := hS.lt
  clear hS
  go_enter Tryz.func67, Tryz.ntmps67
  go_wp2_with fail
  have hb0 : Below w.heap.size w (w.alloc (.cells (mc f) 26)) := (Below.refl _ _).alloc (Nat.le_refl _) _
  have hb1 : Below w.heap.size w ((w.alloc (.cells (mc f) 26)).alloc (.cells (mc M0) 26)) := hb0.alloc (by simp) _
  have S0 : SB w s A n c zs f false false false false ⟨0, 0, 0⟩ ((w.alloc (.cells (mc f) 26)).alloc (.cells (mc M0) 26)) :=
    ⟨HS.out.below hb1, grown_below hb1 _, hsl, by simp, Blk.new' _ _ _ (by simp), ⟨f, (Blk.new w _ _).alloc _, fun _ => rfl⟩, by simp, by simp⟩
  refine (next_any 40 _ S0.src).mono ?_
  rintro e w1 ⟨r, rfl, hr, _, hS1, hg1⟩
  have D1 := Lib.hid (S0.next hS1 hg1)
  clear hr hS1 hg1 S0 hb0 hb1
  by_cases r0 : r = 0
  · subst r0
    obtain ⟨d0, _⟩ := D1.out.pts.six
    have l1 := D1.out.pts.lt
    obtain ⟨x, hx⟩ : ∃ x, x = wrap64 (f.p + 1) := ⟨_, rfl⟩
    go_wp2_with fail
    rw [← hx]
    have hb2 : Below w1.heap.size w1 (w1.alloc (.cells (cI [0, 6, -1, x]).toArray 2)) := (Below.refl _ _).alloc (Nat.le_refl _) _
    have S2 := D1.out.next (D1.out.src.below hb2) (grown_below hb2 _)
    refine (pick_any w1.heap.size 4 4 [0, 6, -1, x] _ S2.src (OwI.lit w1 [0, 6, -1, x] rfl (by decide) D1.out.src.lt) rfl (by decide) (by decide)).mono ?_
    rintro e w2 ⟨r, rfl, hr, hS2, hg2⟩
    have S3 := S2.next hS2 hg2
    have D3 := Lib.hid S3
    obtain ⟨d0, d1, d2, d3, d4, d5⟩ := S3.pts.six
    obtain ⟨y0, y1, y2, y3, y4, y5⟩ := S3.pts.fr6
    obtain ⟨e0, e1, e2, e3, e4, e5⟩ := S3.res.six
    obtain ⟨z0, z1, z2, z3, z4, z5⟩ := S3.res.fr6
    have hlo := Lib.hid S3.low
    clear hr hS2 hg2 hb2 S2 S3
    have HF : Hid (RetMp s A n c zs (fun _ => True) w (.returned (.agg (mc ⟨r, f.t0, f.t1, f.t2, f.t3, f.t4⟩))) (st6 (w2.setCell ⟨w.heap.size, 0, none⟩ (I r)) (w.heap.size + 1) ⟨r, f.t0, f.t1, f.t2, f.t3, f.t4⟩)) :=
      ⟨⟨r, f.t0, f.t1, f.t2, f.t3, f.t4⟩, rfl, trivial, Src.st6 (D3.out.src.cell_far (p := ⟨w.heap.size, 0, none⟩) hsl (I r)) (Nat.lt_succ_of_lt hsl) ⟨r, f.t0, f.t1, f.t2, f.t3, f.t4⟩, grown_st6 (grown_far (p := ⟨w.heap.size, 0, none⟩) D3.out.gr (Nat.le_refl _) (I r)) (Nat.le_succ _) ⟨r, f.t0, f.t1, f.t2, f.t3, f.t4⟩⟩
    clear D3 hlo
    go_wp2_with fail
    refine bodyPost_ret (v := .agg (mc ⟨r, f.t0, f.t1, f.t2, f.t3, f.t4⟩)) ?_ rfl HF.out
    simp [results, Tryz.results67, go_sem, *]
  by_cases r1 : r = 1
  · subst r1
    go_wp2_with fail
    refine wp_region_flags [] rfl (by kernel_rfl) (by kernel_rfl) [] (by kernel_rfl) _
      (fun o : BG => [.pointer (some ⟨s, 0, none⟩), I o.j, .pointer (some ⟨s, 0, none⟩), .pointer (some ⟨w.heap.size, 0, none⟩), I f.p, .slice (some ⟨o.q, 0, none⟩) 3 3, I o.v, .pointer (some ⟨w.heap.size, 1, none⟩), .pointer (some ⟨w.heap.size, 1 + o.j, none⟩), undef])
      (by intro o; simp only [putAll, List.setIfInBounds_toArray, List.set_cons_succ, List.set_cons_zero]; rfl)
      [] rfl _
      (by intro o; simp only [setAll, List.setIfInBounds_toArray, List.set_cons_succ, List.set_cons_zero]; rfl) (by kernel_rfl)
      (fun d o w' => SB w s A n c zs f (d 1) (d 5) (d 6) (d 9) o w')
      ⟨0, 0, 0⟩ (D1.out.next (D1.out.src.below (Below.refl _ _).drew) (grown_below (Below.refl _ _).drew _)) ?hop ?hQ
    case hop =>
      refine ⟨?_, ?_, ?_, ?_, ?_, ?_, ?_, ?_, ?_, ?_, trivial⟩
      · refine ⟨rfl, Flag.pure (fun _ _ _ h => h) fun d c w' hd hdeps hcl hS => ?_⟩
        skip
        clear hS hdeps hcl hd
        unfold Oper.wp
        go_simp
        exact ⟨rfl, fun t ht => by injection ht with ht; subst ht; rfl, rfl⟩
      · refine ⟨rfl, fun d o w' hd hdeps hcl hS => ?_⟩
        have hS : SB w s A n c zs f (d 1) (d 5) (d 6) (d 9) o w' := hS
        have d8 := hcl.down (k := 8) (j := 1) rfl (by kernel_rfl) hd
        rw [hd] at hS
        have HSB := Lib.hid hS
        clear hS hdeps hcl
        unfold Oper.wp
        go_simp
        refine (next_any 5 w' HSB.out.src).mono ?_
        rintro e w6 ⟨r, rfl, hr, _, hS6, hg6⟩
        obtain ⟨hr0, hr5⟩ := hr (by decide)
        obtain ⟨j, hj⟩ : ∃ j : Nat, (j : Int) = r := ⟨r.toNat, by omega⟩
        subst hj
        refine ⟨({ o with j := j } : BG), [(19, I j), (26, .pointer (some ⟨w.heap.size, 1 + j, none⟩))], ⟨rfl, fun t ht => by injection ht with ht; subst ht; rfl⟩, ?_, rfl, ?_⟩
        · exact HSB.out.do1 hS6 hg6 (by omega)
        · intro p hp
          simp at hp
          rcases hp with rfl | rfl
          · exact .inl rfl
          · exact .inr ⟨8, _, rfl, rfl, by decide, d8⟩
      · refine ⟨rfl, Flag.pure (fun _ _ _ h => h) fun d c w' hd hdeps hcl hS => ?_⟩
        skip
        clear hS hdeps hcl hd
        unfold Oper.wp
        go_simp
        exact ⟨rfl, fun t ht => by injection ht with ht; subst ht; rfl, rfl⟩
      · refine ⟨rfl, Flag.pure (fun _ _ _ h => h) fun d c w' hd hdeps hcl hS => ?_⟩
        skip
        clear hS hdeps hcl hd
        unfold Oper.wp
        go_simp
        exact ⟨rfl, fun t ht => by injection ht with ht; subst ht; rfl, rfl⟩
      · refine ⟨rfl, fun d o w' hd hdeps hcl hS => ?_⟩
        have hS : SB w s A n c zs f (d 1) (d 5) (d 6) (d 9) o w' := hS
        have d9 : d 9 = false := hcl.down (k := 9) (j := 6) rfl (by kernel_rfl) (hcl.down (k := 6) (j := 5) rfl (by kernel_rfl) (hcl.down (k := 5) (j := 4) rfl (by kernel_rfl) hd))
        have hS9 : SB w s A n c zs f (d 1) (d 5) (d 6) false o w' := by rw [← d9]; exact hS
        obtain ⟨c0, _⟩ := hS9.pts.six
        have Hs := Lib.hid hS
        clear hS hdeps hcl hd hS9
        unfold Oper.wp
        go_simp
        exact ⟨o, [], ⟨rfl, fun t ht => by injection ht with ht; subst ht; rfl⟩, Hs.out, rfl, by simp⟩
      · refine ⟨rfl, fun d o w' hd hdeps hcl hS => ?_⟩
        have hS : SB w s A n c zs f (d 1) (d 5) (d 6) (d 9) o w' := hS
        have d6 := hcl.down (k := 6) (j := 5) rfl (by kernel_rfl) hd
        rw [hd, d6] at hS
        have hS2 := Lib.hid hS.do5
        clear hS hdeps hcl
        unfold Oper.wp
        go_simp
        refine FlagPost.own ({ o with q := w'.heap.size } : BG) 23 (.slice (some ⟨w'.heap.size, 0, none⟩) 3 3) rfl rfl rfl ?_ rfl
        show SB _ _ _ _ _ _ _ (d 1) true (d 6) (d 9) _ _
        rw [d6]
        exact hS2.out
      · refine ⟨rfl, fun d o w' hd hdeps hcl hS => ?_⟩
        have hS : SB w s A n c zs f (d 1) (d 5) (d 6) (d 9) o w' := hS
        have d5 := hdeps 5 (by kernel_rfl)
        rw [hd, d5] at hS
        have HSB := Lib.hid hS
        clear hS hdeps hcl
        unfold Oper.wp
        go_simp
        refine (pick_any o.q 3 3 [-1, f.p, 1099511627776] w' HSB.out.src ((HSB.out.h5 rfl rfl).mono (by have := HSB.out.low; omega)) rfl (by decide) (by decide)).mono ?_
        rintro e w6 ⟨r, rfl, hr, hS6, hg6⟩
        refine FlagPost.own ({ o with v := r } : BG) 24 (I r) rfl rfl rfl ?_ rfl
        show SB _ _ _ _ _ _ _ (d 1) (d 5) true (d 9) _ _
        rw [d5]
        exact HSB.out.do6 hS6 hg6 r
      · refine ⟨rfl, Flag.pure (fun _ _ _ h => h) fun d c w' hd hdeps hcl hS => ?_⟩
        skip
        clear hS hdeps hcl hd
        unfold Oper.wp
        go_simp
        exact ⟨rfl, fun t ht => by injection ht with ht; subst ht; rfl, rfl⟩
      · refine ⟨rfl, fun d o w' hd hdeps hcl hS => ?_⟩
        have hS : SB w s A n c zs f (d 1) (d 5) (d 6) (d 9) o w' := hS
        have d1 := hdeps 1 (by kernel_rfl)
        have hj : o.j < 5 := hS.h1 d1
        have hjz : (o.j : Int) < 5 := by omega
        have Hs := Lib.hid hS
        clear hS hdeps hcl hd
        unfold Oper.wp
        go_simp
        exact ⟨o, [], ⟨rfl, fun t ht => by injection ht with ht; subst ht; rfl⟩, Hs.out, rfl, by simp⟩
      · refine ⟨rfl, fun d o w' hd hdeps hcl hS => ?_⟩
        have hS : SB w s A n c zs f (d 1) (d 5) (d 6) (d 9) o w' := hS
        have d8 := hdeps 8 (by kernel_rfl)
        have d6 := hdeps 6 (by kernel_rfl)
        have d1 := hcl.up (k := 8) (j := 1) rfl (by kernel_rfl) d8
        have d5 := hcl.up (k := 6) (j := 5) rfl (by kernel_rfl) d6
        rw [hd, d1, d5, d6] at hS
        have c3 := hS.pts.at_ (hS.h1 rfl)
        have z1 := hS.pts.frozen (1 + o.j)
        have Hs := Lib.hid hS.do9
        clear hS hdeps hcl
        unfold Oper.wp
        go_simp
        refine ⟨o, [], ⟨rfl, fun t ht => by cases ht⟩, ?_, rfl, by simp⟩
        show SB _ _ _ _ _ _ _ (d 1) (d 5) (d 6) true _ _
        rw [d1, d5, d6]
        exact Hs.out
    case hQ =>
    intro fl o we hall hS
    have hS : SB w s A n c zs f (fl 1) (fl 5) (fl 6) (fl 9) o we := hS
    have HS3 := Lib.hid hS
    obtain ⟨m, hm, _⟩ := hS.own
    obtain ⟨d0, d1, d2, d3, d4, d5⟩ := hm.six
    obtain ⟨e0, e1, e2, e3, e4, e5⟩ := hS.res.six
    obtain ⟨z0, z1, z2, z3, z4, z5⟩ := hS.res.fr6
    clear hS hall hm
    go_wp2_with fail
    refine bodyPost_ret (v := .agg (mc m)) ?_ rfl ⟨m, rfl, trivial, HS3.out.src.st6 (by omega) m, grown_st6 HS3.out.gr (by omega) m⟩
    simp [results, Tryz.results67, go_sem, *]
  obtain ⟨d0, d1, d2, d3, d4, d5⟩ := D1.out.pts.six
  obtain ⟨e0, e1, e2, e3, e4, e5⟩ := D1.out.res.six
  obtain ⟨z0, z1, z2, z3, z4, z5⟩ := D1.out.res.fr6
  go_wp2_with fail
  refine bodyPost_ret (v := .agg (mc f)) ?_ rfl ⟨f, rfl, trivial, D1.out.src.st6 (by omega) f, grown_st6 D1.out.gr (by omega) f⟩
  simp [results, Tryz.results67, go_sem, *]
theorem spoil_any {s : Nat} {A : Option Addr} {n c : Nat} {zs : List Int} (w : World) (hS : Src w s A n c zs) :
    Calls Tryz.prog 65 #[.pointer (some ⟨s, 0, none⟩)] w (RetMp s A n c zs (fun _ => True) w) := by
  have HS := Lib.hid hS
  have hsl := hS.lt
  clear hS
  go_enter Tryz.func65, Tryz.ntmps65
  go_wp2_with fail
  have hb0 : Below w.heap.size w (w.alloc (.cells (mc M0) 26)) := (Below.refl _ _).alloc (Nat.le_refl _) _
  have Hb := Lib.hid (Blk.new w 26 (mc M0))
  refine (draw_any _ (HS.out.below hb0)).mono ?_
  rintro e w2 ⟨m, rfl, _, hS2, hg2⟩
  have Hg2 := Lib.hid (grown_trans (grown_below hb0 _) hg2)
  have Hb2 := Lib.hid (Hb.out.grown hg2 (fun e => by injection e with e; omega))
  have HS2 := Lib.hid hS2
  clear hS2 hg2 hb0
  go_wp2_with fail
  refine (bad_any m w2 HS2.out).mono ?_
  rintro e w3 ⟨m3, rfl, _, hS3, hg3⟩
  have Hb3 := Hb2.out.grown hg3 (fun e => by injection e with e; omega)
  obtain ⟨e0, e1, e2, e3, e4, e5⟩ := Hb3.six
  obtain ⟨z0, z1, z2, z3, z4, z5⟩ := Hb3.fr6
  have HS3 := Lib.hid hS3
  have Hg3 := Lib.hid (grown_trans Hg2.out hg3)
  clear hS3 hg3 Hb3
  go_wp2_with fail
  refine bodyPost_ret (v := .agg (mc m3)) ?_ rfl ⟨m3, rfl, trivial, HS3.out.st6 hsl m3, grown_st6 Hg3.out (Nat.le_refl _) m3⟩
  simp [results, Tryz.results65, go_sem, *]
end Go.Proofs.YtahamedecibmnaaGreat

namespace Go.Proofs.YtahamedecibmnaaGreat
open Go.RowKit
set_option maxRecDepth 100000
set_option linter.unusedSimpArgs false
set_option linter.unusedVariables false
def RetD0 (w : World) (e : Ending) (w' : World) : Prop := ∃ m : M, e = .returned (.agg (mc m)) ∧ Below w.heap.size w w'
def RetD00 (w : World) (e : Ending) (w' : World) : Prop := ∃ f g : M, e = .returned (.tuple #[.agg (mc f), .agg (mc g)]) ∧ Below w.heap.size w w'
theorem Blk.stx {w : World} {b : Nat} {t : TypeId} {cs : Array Value} (h : Blk w b t cs) {q : Nat} (hq : b ≠ q) (m : M) : Blk (Go.Proofs.YtahamedecibmnaaGreat.st6 w q m) b t cs := by
  unfold Go.Proofs.YtahamedecibmnaaGreat.st6
  exact (((((h.far (by simpa using hq) _).far (by simpa using hq) _).far (by simpa using hq) _).far (by simpa using hq) _).far (by simpa using hq) _).far (by simpa using hq) _
structure SP (w0 : World) (s : Nat) (A : Option Addr) (n c : Nat) (zs : List Int) (q5 : Nat) (f : M) (w : World) : Prop where
  src : Src w s A n c zs
  bel : Below w0.heap.size w0 w
  hs : w0.heap.size + 1 ≤ s
  res : Blk w w0.heap.size 26 (mc M0)
  box : Blk w q5 26 (mc f)
  h5 : s < q5
section
variable {w0 w w' : World} {s : Nat} {A : Option Addr} {n c : Nat} {zs : List Int} {q5 : Nat} {f : M}
theorem SP.next (h : SP w0 s A n c zs q5 f w) (hS : Src w' s A n c zs) (hg : w.grownBy w' (some s)) : SP w0 s A n c zs q5 f w' :=
  have h1 := h.hs
  have h5 := h.h5
  ⟨hS, h.bel.trans ((bel_s hg (Nat.le_of_lt h.src.lt)).mono (by omega)), h.hs, h.res.grown hg (fun e => by injection e with e; omega), h.box.grown hg (fun e => by injection e with e; omega), h.h5⟩
theorem SP.below (h : SP w0 s A n c zs q5 f w) (hb : Below w.heap.size w w') : SP w0 s A n c zs q5 f w' := h.next (h.src.below hb) (grown_below hb _)
theorem SP.set (h : SP w0 s A n c zs q5 f w) (m : M) : SP w0 s A n c zs q5 m (st6 w q5 m) :=
  have h1 := h.hs
  have h5 := h.h5
  ⟨h.src.st6 h.h5 m, below_st6 h.bel (by omega) m, h.hs, h.res.stx (by omega) m, h.box.st6 m, h.h5⟩
theorem SP.fin (h : SP w0 s A n c zs q5 f w) (m : M) : Below w0.heap.size w0 (st6 w w0.heap.size m) := below_st6 h.bel (Nat.le_refl _) m
end
set_option maxHeartbeats 1000000 in
theorem DrawMapText_any {A : Option Addr} {n c : Nat} {zs : List Int} (w : World) (hx : RdU w w.heap.size A zs) (hn : zs.length = n) (hb : n < 4611686018427387904) :
    Calls Tryz.prog 30 #[.slice A n c] w (RetD0 w) := by
  have hb0 : Below w.heap.size w (w.alloc (.cells (mc M0) 26)) := (Below.refl _ _).alloc (Nat.le_refl _) _
  have HF := Lib.hid (from_any (A := A) (n := n) (c := c) (w.alloc (.cells (mc M0) 26)) ⟨Rd.more (hx.below hb0).1 (by simp), hx.2⟩ hn hb)
  have H3 := Lib.hid (Blk.new w 26 (mc M0))
  have Hb0 := Lib.hid hb0
  have hz0 : (w.alloc (.cells (mc M0) 26)).heap.size = w.heap.size + 1 := by simp
  have Hz0 := Lib.hid hz0
  clear hx hn hb hb0 hz0
  go_enter Tryz.func30, Tryz.ntmps30
  go_wp2_with fail
  refine HF.out.mono ?_
  rintro e w1 ⟨s, rfl, hs, hS1, hb1⟩
  rw [Hz0.out] at hs hb1
  have HS1 := Lib.hid hS1
  have Hb1 := Lib.hid (Hb0.out.trans (hb1.mono (Nat.le_succ _)))
  have H31 := Lib.hid (H3.out.below hb1 (Nat.lt_succ_self _))
  have Hs := Lib.hid hs
  clear hS1 hb1 HF H3 Hb0
  go_wp2_with fail
  refine (spoil_any w1 HS1.out).mono ?_
  rintro e w2 ⟨m, rfl, _, hS2, hg2⟩
  have hb2 := Hb1.out.trans ((bel_s hg2 (Nat.le_of_lt HS1.out.lt)).mono (by omega))
  have h32 := H31.out.grown hg2 (fun e => by injection e with e; omega)
  obtain ⟨e0, e1, e2, e3, e4, e5⟩ := h32.six
  obtain ⟨z0, z1, z2, z3, z4, z5⟩ := h32.fr6
  have HR := Lib.hid (below_st6 hb2 (Nat.le_refl _) m)
  clear hS2 hg2 HS1 Hb1 H31 hb2 h32
  go_wp2_with fail
  refine bodyPost_ret (v := .agg (mc m)) ?_ rfl ⟨m, rfl, HR.out⟩
  simp [results, Tryz.results30, go_sem, *]
structure PG where
  x : Int
  q : Nat
  v : Int
def pwL (x : Int) : List Int := [0, 1, 2, 3, 5, 60, x, 1000000000000, -1, 1000000000001]
structure SX (w0 : World) (s : Nat) (A : Option Addr) (n c : Nat) (zs : List Int) (q5 : Nat) (f : M) (b4 b5 b6 : Bool) (o : PG) (w : World) : Prop where
  src : b5 = false → Src w s A n c zs
  bel : Below w0.heap.size w0 w
  hs : w0.heap.size + 1 ≤ s
  res : Blk w w0.heap.size 26 (mc (if b6 then f else M0))
  box : Blk w q5 26 (mc f)
  h5 : s < q5
  h4 : b4 = true → b5 = false → OwI 2 w (s + 1) (.slice (some ⟨o.q, 0, none⟩) 10 10) (pwL o.x)
section
variable {w0 w w' : World} {s : Nat} {A : Option Addr} {n c : Nat} {zs : List Int} {q5 : Nat} {f : M} {b4 b5 b6 : Bool} {o : PG}
theorem SX.next (h : SX w0 s A n c zs q5 f b4 false b6 o w) (hS : Src w' s A n c zs) (hg : w.grownBy w' (some s)) : SX w0 s A n c zs q5 f b4 false b6 o w' :=
  have h1 := h.hs
  have h5 := h.h5
  ⟨fun _ => hS, h.bel.trans ((bel_s hg (Nat.le_of_lt (h.src rfl).lt)).mono (by omega)), h.hs, h.res.grown hg (fun e => by injection e with e; omega), h.box.grown hg (fun e => by injection e with e; omega), h.h5,
    fun e1 e2 => OwI.keep (h.h4 e1 e2) (fun q hq => hg.block q ((h.h4 e1 e2).lt q hq).2 (by have := ((h.h4 e1 e2).lt q hq).1; intro e; injection e with e; omega))⟩
theorem SX.do3 (h : SX w0 s A n c zs q5 f false false b6 o w) (hS : Src w' s A n c zs) (hg : w.grownBy w' (some s)) (x : Int) : SX w0 s A n c zs q5 f false false b6 { o with x := x } w' := by
  have k := h.next hS hg
  exact ⟨k.src, k.bel, k.hs, k.res, k.box, k.h5, by simp⟩
theorem SX.do5 (h : SX w0 s A n c zs q5 f true false b6 o w) (hS : Src w' s A n c zs) (hg : w.grownBy w' (some s)) (v : Int) : SX w0 s A n c zs q5 f true true b6 { o with v := v } w' := by
  have k := h.next hS hg
  exact ⟨by simp, k.bel, k.hs, k.res, k.box, k.h5, by simp⟩
theorem SX.do6 (h : SX w0 s A n c zs q5 f true true false o w) : SX w0 s A n c zs q5 f true true true o (st6 w w0.heap.size f) :=
  have h1 := h.hs
  have h5 := h.h5
  ⟨by simp, below_st6 h.bel (Nat.le_refl _) f, h.hs, h.res.st6 f, h.box.stx (by omega) f, h.h5, by simp⟩
end
structure RG where
  m3 : M
  m4 : M
structure SR2 (w0 : World) (s : Nat) (A : Option Addr) (n c : Nat) (zs : List Int) (q5 q6 : Nat) (f p : M) (b5 b6 b7 : Bool) (o : RG) (w : World) : Prop where
  src : b5 = false → Src w s A n c zs
  bel : Below w0.heap.size w0 w
  hs : w0.heap.size + 2 ≤ s
  c2 : Blk w w0.heap.size 26 (mc (if b6 then o.m3 else M0))
  c3 : Blk w (w0.heap.size + 1) 26 (mc (if b7 then o.m4 else M0))
  x5 : Blk w q5 26 (mc f)
  x6 : Blk w q6 26 (mc p)
  h5 : s < q5
  h6 : s < q6
  h56 : q5 ≠ q6
section
variable {w0 w w' : World} {s : Nat} {A : Option Addr} {n c : Nat} {zs : List Int} {q5 q6 : Nat} {f p : M} {b5 b6 b7 : Bool} {o : RG}
theorem SR2.next (h : SR2 w0 s A n c zs q5 q6 f p false b6 b7 o w) (hS : Src w' s A n c zs) (hg : w.grownBy w' (some s)) (b5 : Bool) : SR2 w0 s A n c zs q5 q6 f p b5 b6 b7 o w' :=
  have h1 := h.hs
  have h5 := h.h5
  have h6 := h.h6
  ⟨fun _ => hS, h.bel.trans ((bel_s hg (Nat.le_of_lt (h.src rfl).lt)).mono (by omega)), h.hs, h.c2.grown hg (fun e => by injection e with e; omega), h.c3.grown hg (fun e => by injection e with e; omega),
    h.x5.grown hg (fun e => by injection e with e; omega), h.x6.grown hg (fun e => by injection e with e; omega), h.h5, h.h6, h.h56⟩
theorem SR2.below (h : SR2 w0 s A n c zs q5 q6 f p false b6 b7 o w) (hb : Below w.heap.size w w') : SR2 w0 s A n c zs q5 q6 f p false b6 b7 o w' := h.next ((h.src rfl).below hb) (grown_below hb _) false
theorem SR2.do2 (h : SR2 w0 s A n c zs q5 q6 f p false false b7 o w) (hS : Src w' s A n c zs) (hg : w.grownBy w' (some s)) (m : M) : SR2 w0 s A n c zs q5 q6 f p false false b7 { o with m3 := m } w' := by
  have k := h.next hS hg false
  exact ⟨k.src, k.bel, k.hs, k.c2, k.c3, k.x5, k.x6, k.h5, k.h6, k.h56⟩
theorem SR2.do5 (h : SR2 w0 s A n c zs q5 q6 f p false b6 false o w) (hS : Src w' s A n c zs) (hg : w.grownBy w' (some s)) (m : M) : SR2 w0 s A n c zs q5 q6 f p true b6 false { o with m4 := m } w' := by
  have k := h.next hS hg true
  exact ⟨by simp, k.bel, k.hs, k.c2, k.c3, k.x5, k.x6, k.h5, k.h6, k.h56⟩
theorem SR2.do6 (h : SR2 w0 s A n c zs q5 q6 f p true false b7 o w) : SR2 w0 s A n c zs q5 q6 f p true true b7 o (st6 w w0.heap.size o.m3) :=
  have h1 := h.hs
  have h5 := h.h5
  have h6 := h.h6
  ⟨by simp, below_st6 h.bel (Nat.le_refl _) _, h.hs, h.c2.st6 _, h.c3.stx (by omega) _, h.x5.stx (by omega) _, h.x6.stx (by omega) _, h.h5, h.h6, h.h56⟩
theorem SR2.do7 (h : SR2 w0 s A n c zs q5 q6 f p true b6 false o w) : SR2 w0 s A n c zs q5 q6 f p true b6 true o (st6 w (w0.heap.size + 1) o.m4) :=
  have h1 := h.hs
  have h5 := h.h5
  have h6 := h.h6
  ⟨by simp, below_st6 h.bel (by omega) _, h.hs, h.c2.stx (by omega) _, h.c3.st6 _, h.x5.stx (by omega) _, h.x6.stx (by omega) _, h.h5, h.h6, h.h56⟩
theorem SR2.set6 (h : SR2 w0 s A n c zs q5 q6 f p false false false o w) (m : M) : SR2 w0 s A n c zs q5 q6 f m false false false o (st6 w q6 m) :=
  have h1 := h.hs
  have h5 := h.h5
  have h6 := h.h6
  ⟨fun _ => (h.src rfl).st6 h.h6 m, below_st6 h.bel (by omega) m, h.hs, h.c2.stx (by omega) m, h.c3.stx (by omega) m, h.x5.stx h.h56 m, h.x6.st6 m, h.h5, h.h6, h.h56⟩
end
end Go.Proofs.YtahamedecibmnaaGreat

namespace Go.Proofs.YtahamedecibmnaaGreat
open Go.RowKit
set_option maxRecDepth 100000
set_option linter.unusedSimpArgs false
set_option linter.unusedVariables false
set_option maxHeartbeats 2000000 in
theorem l01Two_any {A : Option Addr} {n c : Nat} {zs : List Int} (w : World) (hx : RdU w w.heap.size A zs) (hn : zs.length = n) (hb : n < 4611686018427387904) :
    Calls Tryz.prog 33 #[.slice A n c] w (RetD00 w) := by
  obtain ⟨wa, hwa⟩ : ∃ wa, wa = (w.alloc (.cells (mc M0) 26)).alloc (.cells (mc M0) 26) := ⟨_, rfl⟩
  have hb0 : Below w.heap.size w wa := by rw [hwa]; exact ((Below.refl _ _).alloc (Nat.le_refl _) _).alloc (by simp) _
  have H3 : Hid (Blk wa w.heap.size 26 (mc M0)) := by show Blk _ _ _ _; rw [hwa]; exact (Blk.new w _ _).alloc _
  have H4 : Hid (Blk wa (w.heap.size + 1) 26 (mc M0)) := by show Blk _ _ _ _; rw [hwa]; exact Blk.new' _ _ _ (by simp)
  have hz0 : wa.heap.size = w.heap.size + 2 := by rw [hwa]; simp
  have HF := Lib.hid (from_any (A := A) (n := n) (c := c) wa ⟨Rd.more (hx.below hb0).1 (by omega), hx.2⟩ hn hb)
  have Hb0 := Lib.hid hb0
  have Hz0 := Lib.hid hz0
  rw [hwa] at HF
  clear hx hn hb hb0 hz0
  go_enter Tryz.func33, Tryz.ntmps33
  go_wp2_with fail
  refine HF.out.mono ?_
  rintro e w1 ⟨s, rfl, hs, hS1, hb1⟩
  rw [← hwa] at hs hb1
  rw [Hz0.out] at hs hb1
  clear hwa
  have HS1 := Lib.hid hS1
  have Hb1 := Lib.hid (Hb0.out.trans (hb1.mono (by omega)))
  have H31 := Lib.hid (H3.out.below hb1 (by omega))
  have H41 := Lib.hid (H4.out.below hb1 (by omega))
  have hz1 := hb1.size
  rw [Hz0.out] at hz1
  clear hS1 hb1 HF H3 H4 Hb0
  go_wp2_with fail
  refine (draw_any w1 HS1.out).mono ?_
  rintro e w2 ⟨f, rfl, ⟨k, hk1, hk5, hfk⟩, hS2, hg2⟩
  have x0 := (Blk.new w2 26 (mc f)).six.1
  rw [hfk] at x0
  clear hfk
  have hlt2 := hS2.lt
  have hsz2 := hg2.size
  have Hb2 := Lib.hid ((Hb1.out.trans ((bel_s hg2 (Nat.le_of_lt HS1.out.lt)).mono (by omega))).alloc (by have := Hb1.out.size; omega) (.cells (mc f) 26))
  have H32 := Lib.hid ((H31.out.grown hg2 (fun e => by injection e with e; omega)).alloc (.cells (mc f) 26))
  have H42 := Lib.hid ((H41.out.grown hg2 (fun e => by injection e with e; omega)).alloc (.cells (mc f) 26))
  have H52 := Lib.hid (Blk.new w2 26 (mc f))
  have HS2 := Lib.hid (hS2.alloc (.cells (mc f) 26))
  clear hS2 hg2 HS1 Hb1 H31 H41
  go_wp2_with fail
  refine (drawOf_any k hk1 hk5 _ HS2.out).mono ?_
  rintro e w5 ⟨p0, rfl, hp0, hS5, hg5⟩
  clear hp0
  have hq5 := H52.out.lt
  have hsz5 := hg5.size
  have S0 : Hid (SR2 w s A n c zs w2.heap.size w5.heap.size f p0 false false false ⟨M0, M0⟩ (w5.alloc (.cells (mc p0) 26))) := by
    have h1 := Hb2.out.size
    have h2 := HS2.out.lt
    have h3 := hS5.lt
    exact ⟨fun _ => hS5.alloc _, (Hb2.out.trans ((bel_s hg5 (Nat.le_of_lt h2)).mono (by omega))).alloc (by omega) _, hs, (H32.out.grown hg5 (fun e => by injection e with e; omega)).alloc _, (H42.out.grown hg5 (fun e => by injection e with e; omega)).alloc _, (H52.out.grown hg5 (fun e => by injection e with e; omega)).alloc _, Blk.new w5 _ _, hlt2, by omega, by omega⟩
  clear hS5 hg5 Hb2 H32 H42 H52 HS2 x0
  go_wp2_with fail
  refine (next_any 16 _ (S0.out.src rfl)).mono ?_
  rintro e w6 ⟨r, rfl, _, _, hS6, hg6⟩
  have S6 := Lib.hid (S0.out.next hS6 hg6 false)
  clear hS6 hg6 S0
  go_upto_if 17 with fail
  go_cut [] from 26 (fun wx => ∃ p', SR2 w s A n c zs w2.heap.size w5.heap.size f p' false false false ⟨M0, M0⟩ wx)
  case first =>
    by_cases r0 : r = 0
    · subst r0
      go_wp2_with fail
      refine (draw_any w6 (S6.out.src rfl)).mono ?_
      rintro e w7 ⟨m, rfl, _, hS7, hg7⟩
      have S7 := S6.out.next hS7 hg7 false
      obtain ⟨y0, y1, y2, y3, y4, y5⟩ := S7.x6.six
      obtain ⟨z0, z1, z2, z3, z4, z5⟩ := S7.x6.fr6
      have S8 := Lib.hid (S7.set6 m)
      clear hS7 hg7 S7 S6
      go_wp2_with fail
      go_meet
      exact ⟨_, S8.out⟩
    · have r0f : (r == 0) = false := by simpa using r0
      clear r0
      go_wp2_with fail
      go_meet
      exact ⟨_, S6.out⟩
  case rest =>
    clear S6
    obtain ⟨p, hS⟩ := hcut
    have S9 := Lib.hid (hS.below (Below.refl _ _).drew)
    clear hS
    generalize w5.heap.size = q6 at *
    generalize w2.heap.size = q5 at *
    go_upto_region 6 with fail
    refine wp_region_flags [] rfl (by kernel_rfl) (by kernel_rfl) [] (by kernel_rfl) _
      (fun o : RG => [.pointer (some ⟨s, 0, none⟩), .agg (mc f), .agg (mc o.m3), .pointer (some ⟨s, 0, none⟩), .agg (mc p), .agg (mc o.m4), undef, undef])
      (by intro o; simp only [putAll, List.setIfInBounds_toArray, List.set_cons_succ, List.set_cons_zero]; rfl)
      [] rfl _
      (by intro o; simp only [setAll, List.setIfInBounds_toArray, List.set_cons_succ, List.set_cons_zero]; rfl) (by kernel_rfl)
      (fun d o w' => SR2 w s A n c zs q5 q6 f p (d 5) (d 6) (d 7) o w')
      ⟨M0, M0⟩ S9.out ?hop ?hQ
    case hop =>
      refine ⟨?_, ?_, ?_, ?_, ?_, ?_, ?_, ?_, trivial⟩
      · refine ⟨rfl, Flag.pure (fun _ _ _ h => h) fun d c w' hd hdeps hcl hS => ?_⟩
        skip
        clear hS hdeps hcl hd
        unfold Oper.wp
        go_simp
        exact ⟨rfl, fun t ht => by injection ht with ht; subst ht; rfl, rfl⟩
      · refine ⟨rfl, Flag.pure (fun _ _ _ h => h) fun d c w' hd hdeps hcl hS => ?_⟩
        obtain ⟨x0, x1, x2, x3, x4, x5⟩ := hS.x5.six
        clear hS hdeps hcl hd
        unfold Oper.wp
        go_simp
        exact ⟨rfl, fun t ht => by injection ht with ht; subst ht; rfl, rfl⟩
      · refine ⟨rfl, fun d o w' hd hdeps hcl hS => ?_⟩
        have hS : SR2 w s A n c zs q5 q6 f p (d 5) (d 6) (d 7) o w' := hS
        have d5 := hcl.down (k := 5) (j := 2) rfl (by kernel_rfl) hd
        have d6 := hcl.down (k := 6) (j := 5) rfl (by kernel_rfl) d5
        rw [d5, d6] at hS
        have H := Lib.hid hS
        clear hS hdeps hcl
        unfold Oper.wp
        go_simp
        refine (bad_any f w' (H.out.src rfl)).mono ?_
        rintro e w6 ⟨m, rfl, _, hS6, hg6⟩
        refine FlagPost.own ({ o with m3 := m } : RG) 22 (.agg (mc m)) rfl rfl rfl ?_ rfl
        show SR2 _ _ _ _ _ _ _ _ _ _ (d 5) (d 6) (d 7) _ _
        rw [d5, d6]
        exact H.out.do2 hS6 hg6 m
      · refine ⟨rfl, Flag.pure (fun _ _ _ h => h) fun d c w' hd hdeps hcl hS => ?_⟩
        skip
        clear hS hdeps hcl hd
        unfold Oper.wp
        go_simp
        exact ⟨rfl, fun t ht => by injection ht with ht; subst ht; rfl, rfl⟩
      · refine ⟨rfl, Flag.pure (fun _ _ _ h => h) fun d c w' hd hdeps hcl hS => ?_⟩
        obtain ⟨x0, x1, x2, x3, x4, x5⟩ := hS.x6.six
        clear hS hdeps hcl hd
        unfold Oper.wp
        go_simp
        exact ⟨rfl, fun t ht => by injection ht with ht; subst ht; rfl, rfl⟩
      · refine ⟨rfl, fun d o w' hd hdeps hcl hS => ?_⟩
        have hS : SR2 w s A n c zs q5 q6 f p (d 5) (d 6) (d 7) o w' := hS
        have d7 := hcl.down (k := 7) (j := 5) rfl (by kernel_rfl) hd
        rw [hd, d7] at hS
        have H := Lib.hid hS
        clear hS hdeps hcl
        unfold Oper.wp
        go_simp
        refine (bad_any p w' (H.out.src rfl)).mono ?_
        rintro e w6 ⟨m, rfl, _, hS6, hg6⟩
        refine FlagPost.own ({ o with m4 := m } : RG) 25 (.agg (mc m)) rfl rfl rfl ?_ rfl
        show SR2 _ _ _ _ _ _ _ _ _ _ true (d 6) (d 7) _ _
        rw [d7]
        exact H.out.do5 hS6 hg6 m
      · refine ⟨rfl, fun d o w' hd hdeps hcl hS => ?_⟩
        have hS : SR2 w s A n c zs q5 q6 f p (d 5) (d 6) (d 7) o w' := hS
        have d5 := hdeps 5 (by kernel_rfl)
        rw [hd, d5] at hS
        obtain ⟨x0, x1, x2, x3, x4, x5⟩ := hS.c2.six
        obtain ⟨z0, z1, z2, z3, z4, z5⟩ := hS.c2.fr6
        have H := Lib.hid hS.do6
        clear hS hdeps hcl
        unfold Oper.wp
        go_simp
        refine ⟨o, [], ⟨rfl, fun t ht => by cases ht⟩, ?_, rfl, by simp⟩
        show SR2 _ _ _ _ _ _ _ _ _ _ (d 5) true (d 7) _ _
        rw [d5]
        exact H.out
      · refine ⟨rfl, fun d o w' hd hdeps hcl hS => ?_⟩
        have hS : SR2 w s A n c zs q5 q6 f p (d 5) (d 6) (d 7) o w' := hS
        have d5 := hdeps 5 (by kernel_rfl)
        rw [hd, d5] at hS
        obtain ⟨x0, x1, x2, x3, x4, x5⟩ := hS.c3.six
        obtain ⟨z0, z1, z2, z3, z4, z5⟩ := hS.c3.fr6
        have H := Lib.hid hS.do7
        clear hS hdeps hcl
        unfold Oper.wp
        go_simp
        refine ⟨o, [], ⟨rfl, fun t ht => by cases ht⟩, ?_, rfl, by simp⟩
        show SR2 _ _ _ _ _ _ _ _ _ _ (d 5) (d 6) true _ _
        rw [d5]
        exact H.out
    case hQ =>
    intro fl o we hall hS
    have hS : SR2 w s A n c zs q5 q6 f p (fl 5) (fl 6) (fl 7) o we := hS
    rw [hall 6 (by decide), hall 7 (by decide)] at hS
    obtain ⟨m3, m4⟩ := o
    have k3 := hS.c2
    have k4 := hS.c3
    rw [if_pos rfl] at k3 k4
    obtain ⟨x0, x1, x2, x3, x4, x5⟩ := k3.six
    obtain ⟨y0, y1, y2, y3, y4, y5⟩ := k4.six
    have HR : Hid (RetD00 w (.returned (.tuple #[.agg (mc m3), .agg (mc m4)])) we) := ⟨m3, m4, rfl, hS.bel⟩
    clear hS hall k3 k4 S9
    go_wp2_with fail
    refine bodyPost_ret (v := .tuple #[.agg (mc m3), .agg (mc m4)]) ?_ rfl HR.out
    simp [results, Tryz.results33, go_sem, *]
structure SQ2 (w0 : World) (q5 q6 : Nat) (f g : M) (b2 b3 : Bool) (w : World) : Prop where
  bel : Below w0.heap.size w0 w
  c2 : Blk w w0.heap.size 26 (mc (if b2 then f else M0))
  c3 : Blk w (w0.heap.size + 1) 26 (mc (if b3 then g else M0))
  x5 : Blk w q5 26 (mc f)
  x6 : Blk w q6 26 (mc g)
  h5 : w0.heap.size + 1 < q5
  h6 : w0.heap.size + 1 < q6
section
variable {w0 w w' : World} {q5 q6 : Nat} {f g : M} {b2 b3 : Bool}
theorem SQ2.do2 (h : SQ2 w0 q5 q6 f g false b3 w) : SQ2 w0 q5 q6 f g true b3 (st6 w w0.heap.size f) :=
  have h5 := h.h5
  have h6 := h.h6
  ⟨below_st6 h.bel (Nat.le_refl _) _, h.c2.st6 _, h.c3.stx (by omega) _, h.x5.stx (by omega) _, h.x6.stx (by omega) _, h.h5, h.h6⟩
theorem SQ2.do3 (h : SQ2 w0 q5 q6 f g b2 false w) : SQ2 w0 q5 q6 f g b2 true (st6 w (w0.heap.size + 1) g) :=
  have h5 := h.h5
  have h6 := h.h6
  ⟨below_st6 h.bel (by omega) _, h.c2.stx (by omega) _, h.c3.st6 _, h.x5.stx (by omega) _, h.x6.stx (by omega) _, h.h5, h.h6⟩
end
set_option maxHeartbeats 1000000 in
theorem DrawProductOf_any {A : Option Addr} {n c : Nat} {zs : List Int} (w : World) (hx : RdU w w.heap.size A zs) (hn : zs.length = n) (hb : n < 4611686018427387904) :
    Calls Tryz.prog 5 #[.slice A n c] w (RetD00 w) := by
  have hb0 : Below w.heap.size w ((w.alloc (.cells (mc M0) 26)).alloc (.cells (mc M0) 26)) := ((Below.refl _ _).alloc (Nat.le_refl _) _).alloc (by simp) _
  have HF := Lib.hid (l01Two_any (A := A) (n := n) (c := c) _ (RdU.on hx hb0 hb0.size) hn hb)
  have H3 : Hid (Blk ((w.alloc (.cells (mc M0) 26)).alloc (.cells (mc M0) 26)) w.heap.size 26 (mc M0)) := (Blk.new w _ _).alloc _
  have H4 : Hid (Blk ((w.alloc (.cells (mc M0) 26)).alloc (.cells (mc M0) 26)) (w.heap.size + 1) 26 (mc M0)) := Blk.new' _ _ _ (by simp)
  have Hb0 := Lib.hid hb0
  have hz0 : ((w.alloc (.cells (mc M0) 26)).alloc (.cells (mc M0) 26)).heap.size = w.heap.size + 2 := by simp
  have Hz0 := Lib.hid hz0
  clear hx hn hb hb0 hz0
  go_enter Tryz.func5, Tryz.ntmps5
  go_wp2_with fail
  refine HF.out.mono ?_
  rintro e w2 ⟨f, g, rfl, hb2⟩
  have hz2 := hb2.size
  rw [Hz0.out] at hz2
  have S0 : Hid (SQ2 w w2.heap.size (w2.heap.size + 1) f g false false ((w2.alloc (.cells (mc f) 26)).alloc (.cells (mc g) 26)).drew) := by
    have hbx : Below w2.heap.size w2 ((w2.alloc (.cells (mc f) 26)).alloc (.cells (mc g) 26)).drew := (((Below.refl _ _).alloc (Nat.le_refl _) _).alloc (by simp) _).drew
    have hby : Below ((w2.alloc (.cells (mc f) 26)).alloc (.cells (mc g) 26)).heap.size ((w2.alloc (.cells (mc f) 26)).alloc (.cells (mc g) 26)) ((w2.alloc (.cells (mc f) 26)).alloc (.cells (mc g) 26)).drew := (Below.refl _ _).drew
    have h0 := Hb0.out.size
    exact ⟨(Hb0.out.trans (hb2.mono h0)).trans (hbx.mono (by omega)), (H3.out.below hb2 H3.out.lt).below hbx (by omega), (H4.out.below hb2 H4.out.lt).below hbx (by omega), Blk.below ((Blk.new w2 _ _).alloc _) hby (by simp; omega), Blk.below (Blk.new' _ _ _ (by simp)) hby (by simp), by omega, by omega⟩
  clear hb2 HF H3 H4 Hb0
  go_wp2_with fail
  refine wp_region_flags [] rfl (by kernel_rfl) (by kernel_rfl) [] (by kernel_rfl) _
    (fun o : Unit => [.agg (mc f), .agg (mc g), undef, undef])
    (by intro o; simp only [putAll, List.setIfInBounds_toArray, List.set_cons_succ, List.set_cons_zero]; rfl)
    [] rfl _
    (by intro o; simp only [setAll, List.setIfInBounds_toArray, List.set_cons_succ, List.set_cons_zero]; rfl) (by kernel_rfl)
    (fun d o w' => SQ2 w w2.heap.size (w2.heap.size + 1) f g (d 2) (d 3) w')
    () S0.out ?hop ?hQ
  case hop =>
    refine ⟨?_, ?_, ?_, ?_, trivial⟩
    · refine ⟨rfl, Flag.pure (fun _ _ _ h => h) fun d c w' hd hdeps hcl hS => ?_⟩
      obtain ⟨x0, x1, x2, x3, x4, x5⟩ := hS.x5.six
      clear hS hdeps hcl hd
      unfold Oper.wp
      go_simp
      exact ⟨rfl, fun t ht => by injection ht with ht; subst ht; rfl, rfl⟩
    · refine ⟨rfl, Flag.pure (fun _ _ _ h => h) fun d c w' hd hdeps hcl hS => ?_⟩
      obtain ⟨x0, x1, x2, x3, x4, x5⟩ := hS.x6.six
      clear hS hdeps hcl hd
      unfold Oper.wp
      go_simp
      exact ⟨rfl, fun t ht => by injection ht with ht; subst ht; rfl, rfl⟩
    · refine ⟨rfl, fun d o w' hd hdeps hcl hS => ?_⟩
      have hS : SQ2 w w2.heap.size (w2.heap.size + 1) f g (d 2) (d 3) w' := hS
      rw [hd] at hS
      obtain ⟨x0, x1, x2, x3, x4, x5⟩ := hS.c2.six
      obtain ⟨z0, z1, z2, z3, z4, z5⟩ := hS.c2.fr6
      have H := Lib.hid hS.do2
      clear hS hdeps hcl
      unfold Oper.wp
      go_simp
      refine ⟨o, [], ⟨rfl, fun t ht => by cases ht⟩, ?_, rfl, by simp⟩
      exact H.out
    · refine ⟨rfl, fun d o w' hd hdeps hcl hS => ?_⟩
      have hS : SQ2 w w2.heap.size (w2.heap.size + 1) f g (d 2) (d 3) w' := hS
      rw [hd] at hS
      obtain ⟨x0, x1, x2, x3, x4, x5⟩ := hS.c3.six
      obtain ⟨z0, z1, z2, z3, z4, z5⟩ := hS.c3.fr6
      have H := Lib.hid hS.do3
      clear hS hdeps hcl
      unfold Oper.wp
      go_simp
      refine ⟨o, [], ⟨rfl, fun t ht => by cases ht⟩, ?_, rfl, by simp⟩
      exact H.out
  case hQ =>
  intro fl o we hall hS
  have hS : SQ2 w w2.heap.size (w2.heap.size + 1) f g (fl 2) (fl 3) we := hS
  rw [hall 2 (by decide), hall 3 (by decide)] at hS
  have k3 := hS.c2
  have k4 := hS.c3
  rw [if_pos rfl] at k3 k4
  obtain ⟨x0, x1, x2, x3, x4, x5⟩ := k3.six
  obtain ⟨y0, y1, y2, y3, y4, y5⟩ := k4.six
  have HR : Hid (RetD00 w (.returned (.tuple #[.agg (mc f), .agg (mc g)])) we) := ⟨f, g, rfl, hS.bel⟩
  clear hS hall k3 k4 S0
  go_wp2_with fail
  refine bodyPost_ret (v := .tuple #[.agg (mc f), .agg (mc g)]) ?_ rfl HR.out
  simp [results, Tryz.results5, go_sem, *]
theorem SQ2.below {w0 w w' : World} {q5 q6 : Nat} {f g : M} {b2 b3 : Bool} (h : SQ2 w0 q5 q6 f g b2 b3 w) (hb : Below w.heap.size w w') : SQ2 w0 q5 q6 f g b2 b3 w' :=
  ⟨h.bel.trans (hb.mono h.bel.size), h.c2.below hb h.c2.lt, h.c3.below hb h.c3.lt, h.x5.below hb h.x5.lt, h.x6.below hb h.x6.lt, h.h5, h.h6⟩
set_option maxHeartbeats 2000000 in
theorem DrawCompareMaps_any {A : Option Addr} {n c : Nat} {zs : List Int} (w : World) (hx : RdU w w.heap.size A zs) (hn : zs.length = n) (hb : n < 4611686018427387904) :
    Calls Tryz.prog 27 #[.slice A n c] w (RetD00 w) := by
  have hb0 : Below w.heap.size w ((w.alloc (.cells (mc M0) 26)).alloc (.cells (mc M0) 26)) := ((Below.refl _ _).alloc (Nat.le_refl _) _).alloc (by simp) _
  have HF := Lib.hid (l01Two_any (A := A) (n := n) (c := c) _ (RdU.on hx hb0 hb0.size) hn hb)
  have H3 : Hid (Blk ((w.alloc (.cells (mc M0) 26)).alloc (.cells (mc M0) 26)) w.heap.size 26 (mc M0)) := (Blk.new w _ _).alloc _
  have H4 : Hid (Blk ((w.alloc (.cells (mc M0) 26)).alloc (.cells (mc M0) 26)) (w.heap.size + 1) 26 (mc M0)) := Blk.new' _ _ _ (by simp)
  have Hb0 := Lib.hid hb0
  have hz0 : ((w.alloc (.cells (mc M0) 26)).alloc (.cells (mc M0) 26)).heap.size = w.heap.size + 2 := by simp
  have Hz0 := Lib.hid hz0
  have Hcode := Lib.hid hx
  have Hn := Lib.hid hn
  clear hx hn hb0 hz0
  go_enter Tryz.func27, Tryz.ntmps27
  go_wp2_with fail
  refine HF.out.mono ?_
  rintro e w2 ⟨f, g, rfl, hb2⟩
  have hz2 := hb2.size
  rw [Hz0.out] at hz2
  have S0 : Hid (SQ2 w w2.heap.size (w2.heap.size + 1) f g false false ((w2.alloc (.cells (mc f) 26)).alloc (.cells (mc g) 26))) := by
    have hbx : Below w2.heap.size w2 ((w2.alloc (.cells (mc f) 26)).alloc (.cells (mc g) 26)) := ((Below.refl _ _).alloc (Nat.le_refl _) _).alloc (by simp) _
    have h0 := Hb0.out.size
    exact ⟨(Hb0.out.trans (hb2.mono h0)).trans (hbx.mono (by omega)), (H3.out.below hb2 H3.out.lt).below hbx (by omega), (H4.out.below hb2 H4.out.lt).below hbx (by omega), (Blk.new w2 _ _).alloc _, Blk.new' _ _ _ (by simp), by omega, by omega⟩
  have hx2 := RdU.on Hcode.out S0.out.bel S0.out.bel.size
  have HFr := Lib.hid (from_any (A := A) (n := n) (c := c) _ hx2 Hn.out hb)
  clear hb2 HF H3 H4 Hb0 hx2
  go_wp2_with fail
  refine HFr.out.mono ?_
  rintro e w3 ⟨s, rfl, hs, hS3, hb3⟩
  have S3 := Lib.hid (S0.out.below hb3)
  have HS3 := Lib.hid hS3
  have hzz : w2.heap.size + 2 ≤ s := by simp at hs; omega
  clear hS3 hb3 S0 HFr hs
  go_wp2_with fail
  refine (next_any 5 w3 HS3.out).mono ?_
  rintro e w4 ⟨r, rfl, _, _, hS4, hg4⟩
  have S4 : Hid (SQ2 w w2.heap.size (w2.heap.size + 1) f g false false w4) := by
    have h := S3.out
    have hl := HS3.out.lt
    exact ⟨h.bel.trans ((bel_s hg4 (Nat.le_of_lt hl)).mono (by omega)), h.c2.grown hg4 (fun e => by injection e with e; omega), h.c3.grown hg4 (fun e => by injection e with e; omega), h.x5.grown hg4 (fun e => by injection e with e; omega), h.x6.grown hg4 (fun e => by injection e with e; omega), h.h5, h.h6⟩
  clear hS4 hg4 S3 HS3
  by_cases hr : r = 0
  · subst hr
    have S9 : Hid (SQ2 w w2.heap.size w2.heap.size f f false false w4.drew) := by
      have h := S4.out.below (Below.refl _ _).drew
      exact ⟨h.bel, h.c2, h.c3, h.x5, h.x5, h.h5, h.h5⟩
    clear S4
    go_wp2_with fail
    refine wp_region_flags [] rfl (by kernel_rfl) (by kernel_rfl) [] (by kernel_rfl) _
      (fun o : Unit => [.agg (mc f), .agg (mc f), undef, undef])
      (by intro o; simp only [putAll, List.setIfInBounds_toArray, List.set_cons_succ, List.set_cons_zero]; rfl)
      [] rfl _
      (by intro o; simp only [setAll, List.setIfInBounds_toArray, List.set_cons_succ, List.set_cons_zero]; rfl) (by kernel_rfl)
      (fun d o w' => SQ2 w w2.heap.size w2.heap.size f f (d 2) (d 3) w')
      () S9.out ?hop ?hQ
    case hop =>
      refine ⟨?_, ?_, ?_, ?_, trivial⟩
      · refine ⟨rfl, Flag.pure (fun _ _ _ h => h) fun d c w' hd hdeps hcl hS => ?_⟩
        obtain ⟨x0, x1, x2, x3, x4, x5⟩ := hS.x5.six
        clear hS hdeps hcl hd
        unfold Oper.wp
        go_simp
        exact ⟨rfl, fun t ht => by injection ht with ht; subst ht; rfl, rfl⟩
      · refine ⟨rfl, Flag.pure (fun _ _ _ h => h) fun d c w' hd hdeps hcl hS => ?_⟩
        obtain ⟨x0, x1, x2, x3, x4, x5⟩ := hS.x6.six
        clear hS hdeps hcl hd
        unfold Oper.wp
        go_simp
        exact ⟨rfl, fun t ht => by injection ht with ht; subst ht; rfl, rfl⟩
      · refine ⟨rfl, fun d o w' hd hdeps hcl hS => ?_⟩
        have hS : SQ2 w w2.heap.size w2.heap.size f f (d 2) (d 3) w' := hS
        rw [hd] at hS
        obtain ⟨x0, x1, x2, x3, x4, x5⟩ := hS.c2.six
        obtain ⟨z0, z1, z2, z3, z4, z5⟩ := hS.c2.fr6
        have H := Lib.hid hS.do2
        clear hS hdeps hcl
        unfold Oper.wp
        go_simp
        refine ⟨o, [], ⟨rfl, fun t ht => by cases ht⟩, ?_, rfl, by simp⟩
        exact H.out
      · refine ⟨rfl, fun d o w' hd hdeps hcl hS => ?_⟩
        have hS : SQ2 w w2.heap.size w2.heap.size f f (d 2) (d 3) w' := hS
        rw [hd] at hS
        obtain ⟨x0, x1, x2, x3, x4, x5⟩ := hS.c3.six
        obtain ⟨z0, z1, z2, z3, z4, z5⟩ := hS.c3.fr6
        have H := Lib.hid hS.do3
        clear hS hdeps hcl
        unfold Oper.wp
        go_simp
        refine ⟨o, [], ⟨rfl, fun t ht => by cases ht⟩, ?_, rfl, by simp⟩
        exact H.out
    case hQ =>
    intro fl o we hall hS
    have hS : SQ2 w w2.heap.size w2.heap.size f f (fl 2) (fl 3) we := hS
    rw [hall 2 (by decide), hall 3 (by decide)] at hS
    have k3 := hS.c2
    have k4 := hS.c3
    rw [if_pos rfl] at k3 k4
    obtain ⟨x0, x1, x2, x3, x4, x5⟩ := k3.six
    obtain ⟨y0, y1, y2, y3, y4, y5⟩ := k4.six
    have HR : Hid (RetD00 w (.returned (.tuple #[.agg (mc f), .agg (mc f)])) we) := ⟨f, f, rfl, hS.bel⟩
    clear hS hall k3 k4 S9
    go_wp2_with fail
    refine bodyPost_ret (v := .tuple #[.agg (mc f), .agg (mc f)]) ?_ rfl HR.out
    simp [results, Tryz.results27, go_sem, *]
  · have hrf : (r == 0) = false := by simpa using hr
    have S9 := Lib.hid (S4.out.below (Below.refl _ _).drew)
    clear S4 hr
    go_wp2_with fail
    refine wp_region_flags [] rfl (by kernel_rfl) (by kernel_rfl) [] (by kernel_rfl) _
      (fun o : Unit => [.agg (mc f), .agg (mc g), undef, undef])
      (by intro o; simp only [putAll, List.setIfInBounds_toArray, List.set_cons_succ, List.set_cons_zero]; rfl)
      [] rfl _
      (by intro o; simp only [setAll, List.setIfInBounds_toArray, List.set_cons_succ, List.set_cons_zero]; rfl) (by kernel_rfl)
      (fun d o w' => SQ2 w w2.heap.size (w2.heap.size + 1) f g (d 2) (d 3) w')
      () S9.out ?hop ?hQ
    case hop =>
      refine ⟨?_, ?_, ?_, ?_, trivial⟩
      · refine ⟨rfl, Flag.pure (fun _ _ _ h => h) fun d c w' hd hdeps hcl hS => ?_⟩
        obtain ⟨x0, x1, x2, x3, x4, x5⟩ := hS.x5.six
        clear hS hdeps hcl hd
        unfold Oper.wp
        go_simp
        exact ⟨rfl, fun t ht => by injection ht with ht; subst ht; rfl, rfl⟩
      · refine ⟨rfl, Flag.pure (fun _ _ _ h => h) fun d c w' hd hdeps hcl hS => ?_⟩
        obtain ⟨x0, x1, x2, x3, x4, x5⟩ := hS.x6.six
        clear hS hdeps hcl hd
        unfold Oper.wp
        go_simp
        exact ⟨rfl, fun t ht => by injection ht with ht; subst ht; rfl, rfl⟩
      · refine ⟨rfl, fun d o w' hd hdeps hcl hS => ?_⟩
        have hS : SQ2 w w2.heap.size (w2.heap.size + 1) f g (d 2) (d 3) w' := hS
        rw [hd] at hS
        obtain ⟨x0, x1, x2, x3, x4, x5⟩ := hS.c2.six
        obtain ⟨z0, z1, z2, z3, z4, z5⟩ := hS.c2.fr6
        have H := Lib.hid hS.do2
        clear hS hdeps hcl
        unfold Oper.wp
        go_simp
        refine ⟨o, [], ⟨rfl, fun t ht => by cases ht⟩, ?_, rfl, by simp⟩
        exact H.out
      · refine ⟨rfl, fun d o w' hd hdeps hcl hS => ?_⟩
        have hS : SQ2 w w2.heap.size (w2.heap.size + 1) f g (d 2) (d 3) w' := hS
        rw [hd] at hS
        obtain ⟨x0, x1, x2, x3, x4, x5⟩ := hS.c3.six
        obtain ⟨z0, z1, z2, z3, z4, z5⟩ := hS.c3.fr6
        have H := Lib.hid hS.do3
        clear hS hdeps hcl
        unfold Oper.wp
        go_simp
        refine ⟨o, [], ⟨rfl, fun t ht => by cases ht⟩, ?_, rfl, by simp⟩
        exact H.out
    case hQ =>
    intro fl o we hall hS
    have hS : SQ2 w w2.heap.size (w2.heap.size + 1) f g (fl 2) (fl 3) we := hS
    rw [hall 2 (by decide), hall 3 (by decide)] at hS
    have k3 := hS.c2
    have k4 := hS.c3
    rw [if_pos rfl] at k3 k4
    obtain ⟨x0, x1, x2, x3, x4, x5⟩ := k3.six
    obtain ⟨y0, y1, y2, y3, y4, y5⟩ := k4.six
    have HR : Hid (RetD00 w (.returned (.tuple #[.agg (mc f), .agg (mc g)])) we) := ⟨f, g, rfl, hS.bel⟩
    clear hS hall k3 k4 S9
    go_wp2_with fail
    refine bodyPost_ret (v := .tuple #[.agg (mc f), .agg (mc g)]) ?_ rfl HR.out
    simp [results, Tryz.results27, go_sem, *]
end Go.Proofs.YtahamedecibmnaaGreat

namespace Go.Proofs.YtahamedecibmnaaGreat
open Go.RowKit
set_option maxRecDepth 100000
set_option linter.unusedSimpArgs false
set_option linter.unusedVariables false
def RetDL (w : World) (e : Ending) (w' : World) : Prop := ∃ (m : M) (A : Option Addr) (q c : Nat) (L : List Int), e = .returned (.tuple #[.agg (mc m), .slice A q c]) ∧ L.length = q ∧ OwI 2 w' w.heap.size (.slice A q c) L ∧ q ≤ 63 ∧ Below w.heap.size w w'
theorem OwI.st6far {e : TypeId} {w : World} {B q : Nat} {v : Value} {zs : List Int} (h : OwI e w B v zs) (hq : v.ownBlock ≠ some q) (m : M) : OwI e (Go.Proofs.YtahamedecibmnaaGreat.st6 w q m) B v zs :=
  (((((h.far (p := ⟨q, 0, none⟩) hq _).far (p := ⟨q, 1, none⟩) hq _).far (p := ⟨q, 2, none⟩) hq _).far (p := ⟨q, 3, none⟩) hq _).far (p := ⟨q, 4, none⟩) hq _).far (p := ⟨q, 5, none⟩) hq _
theorem SP.growrow {w0 w w' : World} {s : Nat} {A : Option Addr} {n c : Nat} {zs : List Int} {q5 : Nat} {f : M} {row : Option Nat} (h : SP w0 s A n c zs q5 f w) (hg : w.grownBy w' row) (hr : ∀ g, row = some g → s < g ∧ g ≠ q5) : SP w0 s A n c zs q5 f w' :=
  have h1 := h.hs
  have h2 := h.src.lt
  have h5 := h.h5
  ⟨h.src.grown hg (fun g e => (hr g e).1), h.bel.trans ((Below.refl _ _).grown hg (by omega) (fun k hk => by have := (hr k hk).1; omega)), h.hs, h.res.grown hg (fun e => by have := (hr _ e.symm).1; omega), h.box.grown hg (fun e => (hr _ e.symm).2 rfl), h.h5⟩
set_option maxHeartbeats 2000000 in
theorem l01With_any {A : Option Addr} {n c : Nat} {zs : List Int} (w : World) (hx : RdU w w.heap.size A zs) (hn : zs.length = n) (hb : n < 4611686018427387904) :
    Calls Tryz.prog 43 #[.slice A n c] w (RetDL w) := by
  have hb0 : Below w.heap.size w (w.alloc (.cells (mc M0) 26)) := (Below.refl _ _).alloc (Nat.le_refl _) _
  have HF := Lib.hid (from_any (A := A) (n := n) (c := c) (w.alloc (.cells (mc M0) 26)) ⟨Rd.more (hx.below hb0).1 (by simp), hx.2⟩ hn hb)
  have H3 := Lib.hid (Blk.new w 26 (mc M0))
  have Hb0 := Lib.hid hb0
  have hz0 : (w.alloc (.cells (mc M0) 26)).heap.size = w.heap.size + 1 := by simp
  have Hz0 := Lib.hid hz0
  clear hx hn hb hb0 hz0
  go_enter Tryz.func43, Tryz.ntmps43
  go_wp2_with fail
  refine HF.out.mono ?_
  rintro e w1 ⟨s, rfl, hs, hS1, hb1⟩
  rw [Hz0.out] at hs hb1
  have HS1 := Lib.hid hS1
  have Hb1 := Lib.hid (Hb0.out.trans (hb1.mono (Nat.le_succ _)))
  have H31 := Lib.hid (H3.out.below hb1 (Nat.lt_succ_self _))
  have Hs := Lib.hid hs
  clear hS1 hb1 HF H3 Hb0
  go_wp2_with fail
  refine (draw_any w1 HS1.out).mono ?_
  rintro e w2 ⟨f, rfl, ⟨k, hk1, hk5, hfk⟩, hS2, hg2⟩
  have Hfk := Lib.hid hfk
  clear hfk
  have SP2 : Hid (SP w s A n c zs w2.heap.size f (w2.alloc (.cells (mc f) 26))) := by
    have h1 := hs
    have h2 := HS1.out.lt
    have h3 := hS2.lt
    exact ⟨hS2.alloc _, (Hb1.out.trans ((bel_s hg2 (Nat.le_of_lt h2)).mono (by omega))).alloc (by have := hg2.size; have := Hb1.out.size; omega) _, h1, (H31.out.grown hg2 (fun e => by injection e with e; omega)).alloc _, Blk.new w2 _ _, h3⟩
  clear hS2 hg2 HS1 Hb1 H31
  go_upto_region 3 with fail
  go_cut [6] from 33 (fun v wx => ∃ (A' : Option Addr) (q c' : Nat) (L : List Int), v = .slice A' q c' ∧ L.length = q ∧ q ≤ 62 ∧ OwI 2 wx w.heap.size (.slice A' q c') L ∧ (∀ g, (Value.slice A' q c').ownBlock = some g → s < g ∧ g ≠ w2.heap.size) ∧ SP w s A n c zs w2.heap.size f wx)
  case first =>
    obtain ⟨x0, _⟩ := SP2.out.box.six
    rw [Hfk.out] at x0
    rcases (by omega : k = 1 ∨ k = 2 ∨ k = 3 ∨ k = 4 ∨ k = 5) with rfl | rfl | rfl | rfl | rfl
    · skip
      go_wp2_with fail
      refine (next_any 2 _ SP2.out.src).mono ?_
      rintro e w3 ⟨r, rfl, hr, _, hS3, hg3⟩
      obtain ⟨hr0, hrk⟩ := hr (by decide)
      obtain ⟨m, hm⟩ : ∃ m : Nat, (m : Int) = r := ⟨r.toNat, by omega⟩
      subst hm
      have SP3 := Lib.hid (SP2.out.next hS3 hg3)
      have hm32 : m < 32 := by omega
      have hz2 := hg3.size
      clear hr hS3 hg3 x0
      go_wp2_with fail
      refine (l01Points_any m w3 hm32).mono ?_
      rintro e w4 ⟨v, rfl, ho, hb4⟩
      obtain ⟨A', c', rfl, _⟩ := ho.form
      have hl := SP3.out.src.lt
      have hq5 := SP3.out.box.lt
      have hz := SP3.out.bel.size
      have HO : Hid (∃ (A'' : Option Addr) (q c'' : Nat) (L : List Int), Value.slice A' (pts m).length c' = .slice A'' q c'' ∧ L.length = q ∧ q ≤ 62 ∧ OwI 2 w4 w.heap.size (.slice A'' q c'') L ∧ (∀ g, (Value.slice A'' q c'').ownBlock = some g → s < g ∧ g ≠ w2.heap.size) ∧ SP w s A n c zs w2.heap.size f w4) :=
        ⟨A', (pts m).length, c', pts m, rfl, rfl, sel_length _ _, ho.mono hz, fun g e => by have := (ho.lt _ e).1; omega, SP3.out.below hb4⟩
      clear ho hb4 hl hq5 hz SP3
      go_wp2_with fail
      go_meet
      exact HO.out
    · skip
      go_wp2_with fail
      refine (next_any 4 _ SP2.out.src).mono ?_
      rintro e w3 ⟨r, rfl, hr, _, hS3, hg3⟩
      obtain ⟨hr0, hrk⟩ := hr (by decide)
      obtain ⟨m, hm⟩ : ∃ m : Nat, (m : Int) = r := ⟨r.toNat, by omega⟩
      subst hm
      have SP3 := Lib.hid (SP2.out.next hS3 hg3)
      have hm32 : m < 32 := by omega
      have hz2 := hg3.size
      clear hr hS3 hg3 x0
      go_wp2_with fail
      refine (l01Points_any m w3 hm32).mono ?_
      rintro e w4 ⟨v, rfl, ho, hb4⟩
      obtain ⟨A', c', rfl, _⟩ := ho.form
      have hl := SP3.out.src.lt
      have hq5 := SP3.out.box.lt
      have hz := SP3.out.bel.size
      have HO : Hid (∃ (A'' : Option Addr) (q c'' : Nat) (L : List Int), Value.slice A' (pts m).length c' = .slice A'' q c'' ∧ L.length = q ∧ q ≤ 62 ∧ OwI 2 w4 w.heap.size (.slice A'' q c'') L ∧ (∀ g, (Value.slice A'' q c'').ownBlock = some g → s < g ∧ g ≠ w2.heap.size) ∧ SP w s A n c zs w2.heap.size f w4) :=
        ⟨A', (pts m).length, c', pts m, rfl, rfl, sel_length _ _, ho.mono hz, fun g e => by have := (ho.lt _ e).1; omega, SP3.out.below hb4⟩
      clear ho hb4 hl hq5 hz SP3
      go_wp2_with fail
      go_meet
      exact HO.out
    · skip
      go_wp2_with fail
      refine (next_any 8 _ SP2.out.src).mono ?_
      rintro e w3 ⟨r, rfl, hr, _, hS3, hg3⟩
      obtain ⟨hr0, hrk⟩ := hr (by decide)
      obtain ⟨m, hm⟩ : ∃ m : Nat, (m : Int) = r := ⟨r.toNat, by omega⟩
      subst hm
      have SP3 := Lib.hid (SP2.out.next hS3 hg3)
      have hm32 : m < 32 := by omega
      have hz2 := hg3.size
      clear hr hS3 hg3 x0
      go_wp2_with fail
      refine (l01Points_any m w3 hm32).mono ?_
      rintro e w4 ⟨v, rfl, ho, hb4⟩
      obtain ⟨A', c', rfl, _⟩ := ho.form
      have hl := SP3.out.src.lt
      have hq5 := SP3.out.box.lt
      have hz := SP3.out.bel.size
      have HO : Hid (∃ (A'' : Option Addr) (q c'' : Nat) (L : List Int), Value.slice A' (pts m).length c' = .slice A'' q c'' ∧ L.length = q ∧ q ≤ 62 ∧ OwI 2 w4 w.heap.size (.slice A'' q c'') L ∧ (∀ g, (Value.slice A'' q c'').ownBlock = some g → s < g ∧ g ≠ w2.heap.size) ∧ SP w s A n c zs w2.heap.size f w4) :=
        ⟨A', (pts m).length, c', pts m, rfl, rfl, sel_length _ _, ho.mono hz, fun g e => by have := (ho.lt _ e).1; omega, SP3.out.below hb4⟩
      clear ho hb4 hl hq5 hz SP3
      go_wp2_with fail
      go_meet
      exact HO.out
    · skip
      go_wp2_with fail
      refine (next_any 16 _ SP2.out.src).mono ?_
      rintro e w3 ⟨r, rfl, hr, _, hS3, hg3⟩
      obtain ⟨hr0, hrk⟩ := hr (by decide)
      obtain ⟨m, hm⟩ : ∃ m : Nat, (m : Int) = r := ⟨r.toNat, by omega⟩
      subst hm
      have SP3 := Lib.hid (SP2.out.next hS3 hg3)
      have hm32 : m < 32 := by omega
      have hz2 := hg3.size
      clear hr hS3 hg3 x0
      go_wp2_with fail
      refine (l01Points_any m w3 hm32).mono ?_
      rintro e w4 ⟨v, rfl, ho, hb4⟩
      obtain ⟨A', c', rfl, _⟩ := ho.form
      have hl := SP3.out.src.lt
      have hq5 := SP3.out.box.lt
      have hz := SP3.out.bel.size
      have HO : Hid (∃ (A'' : Option Addr) (q c'' : Nat) (L : List Int), Value.slice A' (pts m).length c' = .slice A'' q c'' ∧ L.length = q ∧ q ≤ 62 ∧ OwI 2 w4 w.heap.size (.slice A'' q c'') L ∧ (∀ g, (Value.slice A'' q c'').ownBlock = some g → s < g ∧ g ≠ w2.heap.size) ∧ SP w s A n c zs w2.heap.size f w4) :=
        ⟨A', (pts m).length, c', pts m, rfl, rfl, sel_length _ _, ho.mono hz, fun g e => by have := (ho.lt _ e).1; omega, SP3.out.below hb4⟩
      clear ho hb4 hl hq5 hz SP3
      go_wp2_with fail
      go_meet
      exact HO.out
    · skip
      go_wp2_with fail
      refine (next_any 32 _ SP2.out.src).mono ?_
      rintro e w3 ⟨r, rfl, hr, _, hS3, hg3⟩
      obtain ⟨hr0, hrk⟩ := hr (by decide)
      obtain ⟨m, hm⟩ : ∃ m : Nat, (m : Int) = r := ⟨r.toNat, by omega⟩
      subst hm
      have SP3 := Lib.hid (SP2.out.next hS3 hg3)
      have hm32 : m < 32 := by omega
      have hz2 := hg3.size
      clear hr hS3 hg3 x0
      go_wp2_with fail
      refine (l01Points_any m w3 hm32).mono ?_
      rintro e w4 ⟨v, rfl, ho, hb4⟩
      obtain ⟨A', c', rfl, _⟩ := ho.form
      have hl := SP3.out.src.lt
      have hq5 := SP3.out.box.lt
      have hz := SP3.out.bel.size
      have HO : Hid (∃ (A'' : Option Addr) (q c'' : Nat) (L : List Int), Value.slice A' (pts m).length c' = .slice A'' q c'' ∧ L.length = q ∧ q ≤ 62 ∧ OwI 2 w4 w.heap.size (.slice A'' q c'') L ∧ (∀ g, (Value.slice A'' q c'').ownBlock = some g → s < g ∧ g ≠ w2.heap.size) ∧ SP w s A n c zs w2.heap.size f w4) :=
        ⟨A', (pts m).length, c', pts m, rfl, rfl, sel_length _ _, ho.mono hz, fun g e => by have := (ho.lt _ e).1; omega, SP3.out.below hb4⟩
      clear ho hb4 hl hq5 hz SP3
      go_wp2_with fail
      go_meet
      exact HO.out
  case rest =>
    clear SP2 Hfk
    obtain ⟨A', q, c', L, rfl, hL, hq, hO, hne, hS⟩ := hcut
    have HL := Lib.hid hL
    have HO := Lib.hid hO
    have Hne := Lib.hid hne
    have SP5 := Lib.hid hS
    clear hL hO hne hS
    go_wp2_with fail
    refine (next_any 16 wc SP5.out.src).mono ?_
    rintro e w5 ⟨r, rfl, _, _, hS5, hg5⟩
    have SP6 := Lib.hid (SP5.out.next hS5 hg5)
    have HO6 := Lib.hid (HO.out.keep (fun g hg => hg5.block g (HO.out.lt g hg).2 (fun e => by injection e with e; have := (Hne.out g hg).1; omega)))
    clear hS5 hg5 SP5 HO
    go_upto_if 20 with fail
    go_cut [6] from 33 (fun v wx => ∃ (A' : Option Addr) (q c' : Nat) (L : List Int), v = .slice A' q c' ∧ L.length = q ∧ q ≤ 63 ∧ OwI 2 wx w.heap.size (.slice A' q c') L ∧ (∀ g, (Value.slice A' q c').ownBlock = some g → s < g ∧ g ≠ w2.heap.size) ∧ SP w s A n c zs w2.heap.size f wx)
    case first =>
      by_cases r0 : r = 0
      · subst r0
        have x0 := SP6.out.box.six.1
        have hb2 : Below w5.heap.size w5 (w5.alloc (.cells (cI [0, -1, f.p]).toArray 2)) := (Below.refl _ _).alloc (Nat.le_refl _) _
        have S7 := SP6.out.below hb2
        have O7 := HO6.out.alloc (.cells (cI [0, -1, f.p]).toArray 2)
        go_wp2_with fail
        refine (pick_any w5.heap.size 3 3 [0, -1, f.p] _ S7.src (OwI.lit w5 [0, -1, f.p] rfl (by decide) SP6.out.src.lt) rfl (by decide) (by decide)).mono ?_
        rintro e w8 ⟨x, rfl, _, hS8, hg8⟩
        have SP8 := Lib.hid (S7.next hS8 hg8)
        have HO8 := Lib.hid (O7.keep (fun g hg => hg8.block g (O7.lt g hg).2 (fun e => by injection e with e; have := (Hne.out g hg).1; omega)))
        have hz := SP8.out.bel.size
        clear x0 hb2 S7 O7 hS8 hg8 SP6 HO6
        go_wp2_with (at_builtin; refine wpList_pushI rfl (.tmp 21) (.tmp 27) rfl w.heap.size (.slice A' q c') L rfl (HO8.out.alloc _) w8.heap.size 1 x rfl ((Blk.new _ _ _).cell 0) (by rw [HL.out]; omega) (by simp; omega) (w8.heap.size + 1) (by simp) ?_; intro g' cap w9 ho' hgr hg' hlt')
        have h1 := SP8.out.src.lt
        have h2 := SP8.out.box.lt
        have h3 := HL.out
        have SPa := SP8.out.below ((Below.refl _ _).alloc (Nat.le_refl _) (.cells #[I x] 2))
        have SPb := SPa.growrow hgr Hne.out
        go_meet
        refine ⟨_, L.length + 1, cap, L ++ [x], rfl, by simp, by omega, ho', ?_, SPb⟩
        intro g hg
        have hgg : g' = g := by injection hg
        rw [← hgg]
        rcases hg' with hg' | hg'
        · exact Hne.out g' hg'
        · omega
      · have r0f : (r == 0) = false := by simpa using r0
        clear r0
        go_wp2_with fail
        go_meet
        exact ⟨A', q, c', L, rfl, HL.out, by omega, HO6.out, Hne.out, SP6.out⟩
    case rest =>
      clear SP6 HO6 HL Hne
      obtain ⟨A1, q1, c1, L1, rfl, hL, hq1, hO, hne, hS⟩ := hcut
      have HL := Lib.hid hL
      have HO := Lib.hid hO
      have SP9 := Lib.hid hS
      have Hne := Lib.hid hne
      obtain ⟨x0, x1, x2, x3, x4, x5⟩ := SP9.out.box.six
      clear hL hO hne hS
      go_wp2_with fail
      refine (bad_any f _ SP9.out.src).mono ?_
      rintro e w7 ⟨m, rfl, _, hS7, hg7⟩
      have SP7 := SP9.out.next hS7 hg7
      have ho7 := HO.out.keep (fun g hg => hg7.block g (HO.out.lt g hg).2 (fun e => by injection e with e; have := (Hne.out g hg).1; omega))
      obtain ⟨e0, e1, e2, e3, e4, e5⟩ := SP7.res.six
      obtain ⟨u0, u1, u2, u3, u4, u5⟩ := SP7.res.fr6
      have hs1 := SP7.hs
      have HR : Hid (RetDL w (.returned (.tuple #[.agg (mc m), .slice A1 q1 c1])) (st6 w7 w.heap.size m)) := ⟨m, A1, q1, c1, L1, rfl, HL.out, OwI.st6far ho7 (fun e => by have := (Hne.out _ e).1; omega) m, hq1, SP7.fin m⟩
      clear hS7 hg7 SP7 SP9 ho7 HO x0 x1 x2 x3 x4 x5 hs1
      go_wp2_with fail
      refine bodyPost_ret (v := .tuple #[.agg (mc m), .slice A1 q1 c1]) ?_ rfl HR.out
      simp [results, Tryz.results43, go_sem, *]
end Go.Proofs.YtahamedecibmnaaGreat

namespace Go.Proofs.YtahamedecibmnaaGreat
open Go.RowKit
set_option maxRecDepth 100000
set_option linter.unusedSimpArgs false
set_option linter.unusedVariables false
theorem DrawImageOf_any {A : Option Addr} {n c : Nat} {zs : List Int} (w : World) (hx : RdU w w.heap.size A zs) (hn : zs.length = n) (hb : n < 4611686018427387904) :
    Calls Tryz.prog 15 #[.slice A n c] w (RetDL w) := by
  have hb0 : Below w.heap.size w (w.alloc (.cells (mc M0) 26)) := (Below.refl _ _).alloc (Nat.le_refl _) _
  have hz0 : (w.alloc (.cells (mc M0) 26)).heap.size = w.heap.size + 1 := by simp
  have hx1 : RdU (w.alloc (.cells (mc M0) 26)) (w.alloc (.cells (mc M0) 26)).heap.size A zs := RdU.on hx hb0 hb0.size
  have HF := Lib.hid (l01With_any (A := A) (n := n) (c := c) _ hx1 hn hb)
  have H3 := Lib.hid (Blk.new w 26 (mc M0))
  have Hb0 := Lib.hid hb0
  have Hz0 := Lib.hid hz0
  clear hx hn hb hb0 hx1 hz0
  go_enter Tryz.func15, Tryz.ntmps15
  go_wp2_with fail
  refine HF.out.mono ?_
  rintro e w2 ⟨m, A5, q5, c5, L, rfl, hL, ho, hq, hb2⟩
  have hz := Hz0.out
  have hs2 := hb2.size
  have hbel := (Hb0.out.trans (hb2.mono (by omega))).alloc (by omega) (.cells (mc m) 26)
  have h3 := (H3.out.below hb2 H3.out.lt).alloc (.cells (mc m) 26)
  have hbx := Blk.new w2 26 (mc m)
  have ho2 := ho.alloc (.cells (mc m) 26)
  obtain ⟨x0, x1, x2, x3, x4, x5⟩ := hbx.six
  obtain ⟨e0, e1, e2, e3, e4, e5⟩ := h3.six
  obtain ⟨u0, u1, u2, u3, u4, u5⟩ := h3.fr6
  have HR : Hid (RetDL w (.returned (.tuple #[.agg (mc m), .slice A5 q5 c5])) (st6 (w2.alloc (.cells (mc m) 26)) w.heap.size m)) := ⟨m, A5, q5, c5, L, rfl, hL, (OwI.st6far ho2 (fun e => by have := (ho2.lt _ e).1; omega) m).mono (by omega), hq, below_st6 hbel (Nat.le_refl _) m⟩
  clear hL ho hq hb2 hbel h3 ho2 hbx hz hs2 HF H3 Hb0 Hz0
  go_wp2_with fail
  refine bodyPost_ret (v := .tuple #[.agg (mc m), .slice A5 q5 c5]) ?_ rfl HR.out
  simp [results, Tryz.results15, go_sem, *]
theorem DrawPreimageOf_any {A : Option Addr} {n c : Nat} {zs : List Int} (w : World) (hx : RdU w w.heap.size A zs) (hn : zs.length = n) (hb : n < 4611686018427387904) :
    Calls Tryz.prog 21 #[.slice A n c] w (RetDL w) := by
  have hb0 : Below w.heap.size w (w.alloc (.cells (mc M0) 26)) := (Below.refl _ _).alloc (Nat.le_refl _) _
  have hz0 : (w.alloc (.cells (mc M0) 26)).heap.size = w.heap.size + 1 := by simp
  have hx1 : RdU (w.alloc (.cells (mc M0) 26)) (w.alloc (.cells (mc M0) 26)).heap.size A zs := RdU.on hx hb0 hb0.size
  have HF := Lib.hid (l01With_any (A := A) (n := n) (c := c) _ hx1 hn hb)
  have H3 := Lib.hid (Blk.new w 26 (mc M0))
  have Hb0 := Lib.hid hb0
  have Hz0 := Lib.hid hz0
  clear hx hn hb hb0 hx1 hz0
  go_enter Tryz.func21, Tryz.ntmps21
  go_wp2_with fail
  refine HF.out.mono ?_
  rintro e w2 ⟨m, A5, q5, c5, L, rfl, hL, ho, hq, hb2⟩
  have hz := Hz0.out
  have hs2 := hb2.size
  have hbel := (Hb0.out.trans (hb2.mono (by omega))).alloc (by omega) (.cells (mc m) 26)
  have h3 := (H3.out.below hb2 H3.out.lt).alloc (.cells (mc m) 26)
  have hbx := Blk.new w2 26 (mc m)
  have ho2 := ho.alloc (.cells (mc m) 26)
  obtain ⟨x0, x1, x2, x3, x4, x5⟩ := hbx.six
  obtain ⟨e0, e1, e2, e3, e4, e5⟩ := h3.six
  obtain ⟨u0, u1, u2, u3, u4, u5⟩ := h3.fr6
  have HR : Hid (RetDL w (.returned (.tuple #[.agg (mc m), .slice A5 q5 c5])) (st6 (w2.alloc (.cells (mc m) 26)) w.heap.size m)) := ⟨m, A5, q5, c5, L, rfl, hL, (OwI.st6far ho2 (fun e => by have := (ho2.lt _ e).1; omega) m).mono (by omega), hq, below_st6 hbel (Nat.le_refl _) m⟩
  clear hL ho hq hb2 hbel h3 ho2 hbx hz hs2 HF H3 Hb0 Hz0
  go_wp2_with fail
  refine bodyPost_ret (v := .tuple #[.agg (mc m), .slice A5 q5 c5]) ?_ rfl HR.out
  simp [results, Tryz.results21, go_sem, *]
end Go.Proofs.YtahamedecibmnaaGreat

namespace Go.Proofs.YtahamedecibmnaaGreat
open Go.RowKit
set_option maxRecDepth 100000
set_option linter.unusedSimpArgs false
set_option linter.unusedVariables false
theorem list5_any (f : M) (w : World) (hp1 : 1 ≤ f.p) (hp5 : f.p ≤ 5) :
    Calls Tryz.prog 54 #[.agg (mc f)] w fun e w' => ∃ v, e = .returned v ∧ OwI 2 w' w.heap.size v (imgs f f.p.toNat) ∧ Below w.heap.size w w' := by
  go_enter Tryz.func54, Tryz.ntmps54
  go_wp2
  go_loopw [3, 4] (fun v i wr => ∃ k : Nat, (k : Int) ≤ f.p ∧ i = .int .i64 k ∧ OwI 2 wr (w.heap.size + 1) v (imgs f k) ∧ Blk wr w.heap.size 26 (mc f) ∧ Below w.heap.size w wr) (fun _ i _ => 5 - (intOf i).toNat)
  case atStart => exact ⟨0, by omega, rfl, OwI.made' (by simp) (Nat.le_refl _), (Blk.new _ _ _).alloc _, by (repeat (first | with_reducible assumption | with_reducible exact Below.refl _ _ | with_reducible refine Below.setCell ?_ (by first | omega | (simp <;> omega)) _ | with_reducible refine Below.alloc ?_ (by first | omega | (simp <;> omega)) _ | with_reducible refine Below.drew ?_ | with_reducible refine Below.drewN ?_ _))⟩
  case round =>
    obtain ⟨k, hk, rfl, hown, hB, hbel⟩ := hrel
    obtain ⟨A, c, rfl, _⟩ := hown.form
    have c0 : wr.cell? ⟨w.heap.size, 0, none⟩ = some (I f.p) := hB.cell 0
    by_cases hlt : (k : Int) < f.p
    · have c1 := hB.at_ (k := k) (by omega)
      go_wp2_with (at_builtin; refine wpList_pushI rfl (.tmp 12) (.tmp 17) rfl (w.heap.size + 1) _ (imgs f k) rfl (hown.alloc _) wr.heap.size 1 (f.at k) rfl ((Blk.new _ _ _).cell 0) (by rw [imgs_length]; omega) (by have := hbel.size; simp; omega) (wr.heap.size + 1) (by simp) ?_; intro g' cap w1 hown' hgr hg' hlt')
      go_roundw
      case rel => exact ⟨k + 1, by omega, by go_num, by rw [imgs_succ]; simpa using hown', (hB.alloc _).grown hgr (hown.ne (by omega)), hown.alloc _ |>.bel (hbel.alloc hbel.size _) hgr (by omega) (by have := hbel.size; simp; omega)⟩
      case measure => simp [intOf]; omega
    · obtain rfl : k = f.p.toNat := by omega
      go_wp2
      go_ret
      exact ⟨_, rfl, hown.mono (by omega), hbel⟩
def RetDI (w : World) (e : Ending) (w' : World) : Prop := ∃ (A : Option Addr) (q c : Nat) (L : List Int), e = .returned (.slice A q c) ∧ L.length = q ∧ OwI 2 w' w.heap.size (.slice A q c) L ∧ q ≤ 63 ∧ Below w.heap.size w w'
theorem DrawMapOf_any {A : Option Addr} {n c : Nat} {zs : List Int} (w : World) (hx : RdU w w.heap.size A zs) (hn : zs.length = n) (hb : n < 4611686018427387904) :
    Calls Tryz.prog 23 #[.slice A n c] w (RetDI w) := by
  have HF := Lib.hid (from_any (A := A) (n := n) (c := c) w hx hn hb)
  clear hx hn hb
  go_enter Tryz.func23, Tryz.ntmps23
  go_wp2_with fail
  refine HF.out.mono ?_
  rintro e w1 ⟨s, rfl, hs, hS1, hb1⟩
  have HS1 := Lib.hid hS1
  have Hb1 := Lib.hid hb1
  have Hs := Lib.hid hs
  clear hS1 hb1 hs HF
  go_wp2_with fail
  refine (draw_any w1 HS1.out).mono ?_
  rintro e w2 ⟨f, rfl, ⟨k, hk1, hk5, hfk⟩, hS2, hg2⟩
  have HS2 := Lib.hid hS2
  have Hb2 := Lib.hid (Hb1.out.trans ((bel_s hg2 (Nat.le_of_lt HS1.out.lt)).mono Hs.out))
  have Hz2 := Lib.hid hS2.lt
  clear hS2 hg2 HS1 Hb1
  go_wp2_with fail
  refine (list5_any f w2 (by omega) (by omega)).mono ?_
  rintro e w3 ⟨v, rfl, ho, hb3⟩
  have hl : (imgs f f.p.toNat).length = k := by rw [imgs_length]; omega
  generalize imgs f f.p.toNat = L at *
  obtain ⟨A3, c3, rfl, _⟩ := ho.form
  have HL := Lib.hid hl
  rw [hl] at ho ⊢
  have HO3 := Lib.hid ho
  have HS3 := Lib.hid (HS2.out.below hb3)
  have Hb3 := Lib.hid (Hb2.out.trans (hb3.mono Hb2.out.size))
  have Hz3 := Lib.hid hb3.size
  clear ho hb3 HS2 Hb2 hl hfk
  go_wp2_with fail
  refine (next_any 12 w3 HS3.out).mono ?_
  rintro e w4 ⟨r, rfl, _, _, hS4, hg4⟩
  have HO4 := Lib.hid (HO3.out.keep (fun g hg => hg4.block g (HO3.out.lt g hg).2 (fun e => by injection e with e; have := (HO3.out.lt g hg).1; have := Hz2.out; omega)))
  have HS4 := Lib.hid hS4
  have Hb4 := Lib.hid (Hb3.out.trans ((bel_s hg4 (Nat.le_of_lt HS3.out.lt)).mono Hs.out))
  have Hz4 := Lib.hid hg4.size
  clear hS4 hg4 HO3 HS3 Hb3
  by_cases r0 : r = 0
  · subst r0
    have hb2 : Below w4.heap.size w4 (w4.alloc (.cells (cI [0, 0, 5]).toArray 2)) := (Below.refl _ _).alloc (Nat.le_refl _) _
    have S7 := HS4.out.below hb2
    have B7 := Hb4.out.trans (hb2.mono Hb4.out.size)
    have O7 := HO4.out.alloc (.cells (cI [0, 0, 5]).toArray 2)
    go_wp2_with fail
    refine (pick_any w4.heap.size 3 3 [0, 0, 5] _ S7 (OwI.lit w4 [0, 0, 5] rfl (by decide) HS4.out.lt) rfl (by decide) (by decide)).mono ?_
    rintro e w8 ⟨x, rfl, _, hS8, hg8⟩
    have HO8 := Lib.hid (O7.keep (fun g hg => hg8.block g (O7.lt g hg).2 (fun e => by injection e with e; have := (O7.lt g hg).1; have := Hz2.out; omega)))
    have Hb8 := Lib.hid (B7.trans ((bel_s hg8 (Nat.le_of_lt S7.lt)).mono Hs.out))
    have hz8 := Hb8.out.size
    have hw2 : w.heap.size ≤ w2.heap.size := by have := Hz2.out; have := Hs.out; omega
    have hw8 : w2.heap.size ≤ w8.heap.size := by have := Hz3.out; have := hg8.size; have := hb2.size; have := Hz4.out; omega
    clear hb2 S7 B7 O7 hS8 hg8 HS4 HO4 Hb4
    go_wp2_with (at_builtin; refine wpList_pushI rfl (.tmp 14) (.tmp 18) rfl w2.heap.size (.slice A3 k c3) L rfl (HO8.out.alloc _) w8.heap.size 1 x rfl ((Blk.new _ _ _).cell 0) (by rw [HL.out]; omega) (by simp; omega) (w8.heap.size + 1) (by simp) ?_; intro g' cap w9 ho' hgr hg' hlt')
    have hl9 := HL.out
    have HR := Lib.hid (show RetDI w (.returned (.slice (some ⟨g', 0, none⟩) (L.length + 1) cap)) w9 from ⟨_, _, _, L ++ [x], rfl, by simp, ho'.mono hw2, by omega, (HO8.out.alloc _).bel ((Hb8.out.alloc hz8 _)) hgr hw2 (by simp; omega)⟩)
    go_wp2_with fail
    refine bodyPost_ret ?_ rfl HR.out
    simp [results, Tryz.results23, go_sem, *]
  · have r0f : (r == 0) = false := by simpa using r0
    by_cases r1 : r = 1
    · subst r1
      obtain ⟨g0, c0, hv, _⟩ := HO4.out.spot (k := 0) (by rw [HL.out]; omega)
      injection hv with hv e2 e3
      subst hv
      clear e2 e3
      have hb2 : Below w4.heap.size w4 (w4.alloc (.cells (cI [-1, (k : Int)]).toArray 2)) := (Below.refl _ _).alloc (Nat.le_refl _) _
      have S7 := HS4.out.below hb2
      have B7 := Hb4.out.trans (hb2.mono Hb4.out.size)
      have O7 := HO4.out.alloc (.cells (cI [-1, (k : Int)]).toArray 2)
      go_wp2_with fail
      refine (pick_any w4.heap.size 2 2 [-1, (k : Int)] _ S7 (OwI.lit w4 [-1, (k : Int)] rfl (by simp) HS4.out.lt) rfl (by decide) (by decide)).mono ?_
      rintro e w8 ⟨x, rfl, _, hS8, hg8⟩
      have HO8 := Lib.hid (O7.keep (fun g hg => hg8.block g (O7.lt g hg).2 (fun e => by injection e with e; have := (O7.lt g hg).1; have := Hz2.out; omega)))
      have Hb8 := Lib.hid (B7.trans ((bel_s hg8 (Nat.le_of_lt S7.lt)).mono Hs.out))
      have hw2 : w.heap.size ≤ w2.heap.size := by have := Hz2.out; have := Hs.out; omega
      obtain ⟨g1, c1, hv, h1, h2, h3, h4, h5⟩ := HO8.out.spot (k := 0) (by rw [HL.out]; omega)
      injection hv with hv e2 e3
      injection hv with hv
      injection hv with hv _ _
      subst hv
      have HR := Lib.hid (show RetDI w (.returned (.slice (some ⟨g0, 0, none⟩) k c3)) (w8.setCell ⟨g0, 0, none⟩ (I x)) from ⟨_, _, _, L.set 0 x, rfl, by rw [List.length_set]; exact HL.out, (h5 x).mono hw2, by omega, Hb8.out.setCell (by show w.heap.size ≤ g0; omega) _⟩)
      clear h5 h1 hw2 HO8 Hb8 hb2 S7 B7 O7 hS8 hg8 HS4 HO4 Hb4
      go_wp2_with fail
      refine bodyPost_ret ?_ rfl HR.out
      simp [results, Tryz.results23, go_sem, *]
    · have r1f : (r == 1) = false := by simpa using r1
      by_cases r2 : r = 2
      · subst r2
        clear r0 r1 HO4 HS4
        have HR := Lib.hid (show RetDI w (.returned (.slice (some ⟨w4.heap.size, 0, none⟩) 0 0)) (w4.alloc (.cells #[] 2)) from ⟨_, 0, 0, [], rfl, rfl, (OwI.made' rfl (Nat.le_refl _)).mono Hb4.out.size, by decide, Hb4.out.alloc Hb4.out.size _⟩)
        go_wp2_with fail
        refine bodyPost_ret ?_ rfl HR.out
        simp [results, Tryz.results23, go_sem, *]
      · have r2f : (r == 2) = false := by simpa using r2
        clear r0 r1 r2 HS4
        have HR := Lib.hid (show RetDI w (.returned (.slice A3 k c3)) w4 from ⟨A3, k, c3, L, rfl, HL.out, HO4.out.mono (by have := Hz2.out; have := Hs.out; omega), by omega, Hb4.out⟩)
        go_wp2_with fail
        refine bodyPost_ret ?_ rfl HR.out
        simp [results, Tryz.results23, go_sem, *]
end Go.Proofs.YtahamedecibmnaaGreat
