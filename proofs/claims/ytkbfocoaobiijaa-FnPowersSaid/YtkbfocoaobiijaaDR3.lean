/- Contract of a drawn order of at most five numbers; no conditions beyond those that the theorems state. -/
import Derived.Test.YtkbfocoaobiijaaDR2
import Derived.Deep.DeepAppendWide
namespace Go.Proofs.Ytkbfocoaobiijaa
open Go.RowKit
set_option maxRecDepth 100000
set_option linter.unusedSimpArgs false
set_option linter.unusedVariables false

theorem cI_one3 {zs : List Int} : ∀ u ∈ cI zs, u.oneCell' = true := fun u hu => by
  obtain ⟨z, _, rfl⟩ := List.mem_map.1 hu
  rfl
theorem cI_app3 (xs ys : List Int) : cI (xs ++ ys) = cI xs ++ cI ys := by simp [cI]
/-- append of a list of numbers to a row of the call's own, one operation -/
theorem wp_catI3 {w : World} {o : Oper} {a : Act} {K : Act → World → Prop} {Q : Exit → Act → World → Prop} (s x : Operand)
    (ho : o.op = .call { callee := .builtin .append, args := #[s, x], argTypes := #[34, 34] }) (B : Nat) (v : Value) (ms xs : List Int) (hs : a.eval s = v) (hown : OwI 2 w B v ms)
    (g off n c : Nat) (hx : a.eval x = .slice (some ⟨g, off, none⟩) n c) (hc : ∀ j, j < xs.length → w.cell? ⟨g, off + j, none⟩ = some (I (gi xs j))) (hn : xs.length = n)
    (hb : ms.length + n < 1073741824) (hB : B ≤ w.heap.size)
    (h : ∀ v' w', OwI 2 w' B v' (ms ++ xs) → w.grownBy w' v.ownBlock → K (a.put o.dst v') w') : o.wp Try.prog a w K Q := by
  obtain ⟨i, hi, hz0, hz1, hz2⟩ := info_parts infoI
  subst hn
  refine wp_append_own_wide w s x 34 ho B 2 i (.int .i64 0) 1 8 Try.underlying34 hi hz0 hz1 hz2 rfl (by decide) v ms.length (cI ms) hs hown ⟨g, off, none⟩ xs.length c (cI xs) hx (by rw [cI_length]; omega) ?_ ?_ (by unfold maxLen; omega) (by omega) hB ?_
  · intro j u hj
    have hjl : j < xs.length := by
      rcases Nat.lt_or_ge j xs.length with h | h
      · exact h
      · rw [List.getElem?_eq_none (by rw [cI_length]; exact h)] at hj; cases hj
    rw [cI_get hjl] at hj
    injection hj with hj
    subst hj
    have := hc j hjl
    unfold Addr.add
    split
    · rename_i h0; subst h0; simpa using this
    · exact this
  · exact cI_one3
  · intro v' w' h1 h2 _
    refine h v' w' ?_ h2
    unfold OwI
    rw [cI_app3, List.length_append]
    exact h1

theorem wpList_catI3 {w : World} {ops : Array Oper} {rest : List Oper} {o : Oper} {a : Act} {Q : Exit → Act → World → Prop} (hgd : o.guard = none) (s x : Operand)
    (ho : o.op = .call { callee := .builtin .append, args := #[s, x], argTypes := #[34, 34] }) (B : Nat) (v : Value) (ms xs : List Int) (hs : a.eval s = v) (hown : OwI 2 w B v ms)
    (g off n c : Nat) (hx : a.eval x = .slice (some ⟨g, off, none⟩) n c) (hc : ∀ j, j < xs.length → w.cell? ⟨g, off + j, none⟩ = some (I (gi xs j))) (hn : xs.length = n)
    (hb : ms.length + n < 1073741824) (hB : B ≤ w.heap.size)
    (h : ∀ v' w', OwI 2 w' B v' (ms ++ xs) → w.grownBy w' v.ownBlock → wpList Try.prog ops Q rest (a.put o.dst v') w') : wpList Try.prog ops Q (o :: rest) a w :=
  wpList_plain hgd fun _ hK => wp_catI3 s x ho B v ms xs hs hown g off n c hx hc hn hb hB fun v' w' h2 h3 => hK _ _ (h v' w' h2 h3)
def RetV (zs : List Int) (w : World) (e : Ending) (w' : World) : Prop := ∃ v, e = .returned v ∧ OwI 2 w' w.heap.size v zs ∧ Below w.heap.size w w'
theorem own3_any (g n c : Nat) (zs : List Int) (w : World) (hc : ∀ j, j < zs.length → w.cell? ⟨g, j, none⟩ = some (I (gi zs j))) (hg : g < w.heap.size) (hn : zs.length = n) (hb : n ≤ 300) :
    Calls Try.prog 79 #[.slice (some ⟨g, 0, none⟩) n c] w (RetV zs w) := by
  have Hc := Lib.hid hc
  have Hn := Lib.hid hn
  clear hc hn
  go_enter Try.func79, Try.ntmps79
  go_wp2_with (at_builtin; refine wpList_catI3 rfl (.tmp 3) (.tmp 4) rfl w.heap.size (.slice (some ⟨w.heap.size, 0, none⟩) 0 0) [] zs rfl (OwI.made (Nat.le_refl _)) g 0 n c rfl (fun j hj => by rw [Nat.zero_add]; exact (World.cell?_alloc_lt _ _ _ hg).trans (Hc.out j hj)) Hn.out (by simp; omega) (by simp) ?_; intro v' w1 hown' hgr; have Ho1 := Lib.hid hown'; have Hb1 := Lib.hid (((OwI.made (e := 2) (Nat.le_refl w.heap.size))).bel ((Below.refl w.heap.size w).alloc (Nat.le_refl _) (.cells #[] 2)) hgr (Nat.le_refl _) (by simp)); clear hown' hgr)
  go_ret
  exact ⟨v', rfl, Ho1.out, Hb1.out⟩

/-- the state of the region that puts a number into an order -/
structure OS where
  v1 : Value
  q : Nat
  v2 : Value
  v3 : Value
structure SO (w0 : World) (L : List Int) (a i : Nat) (b3 b5 b6 b10 : Bool) (s : OS) (w : World) : Prop where
  bel : Below w0.heap.size w0 w
  h3 : b3 = true → b6 = false → OwI 2 w w0.heap.size s.v1 (L.take a)
  h5 : b5 = true → b6 = false → Blk w s.q 2 #[I i] ∧ w0.heap.size ≤ s.q
  h6 : b6 = true → b10 = false → OwI 2 w w0.heap.size s.v2 (L.take a ++ [(i : Int)])
  h10 : b10 = true → OwI 2 w w0.heap.size s.v3 (L.take a ++ [(i : Int)] ++ L.drop a)
section
variable {w0 w w' : World} {L : List Int} {a i : Nat} {b3 b5 b6 b10 : Bool} {s : OS}
theorem SO.below (h : SO w0 L a i b3 b5 b6 b10 s w) (hb : Below w.heap.size w w') : SO w0 L a i b3 b5 b6 b10 s w' :=
  ⟨h.bel.trans (hb.mono h.bel.size), fun e e2 => (h.h3 e e2).below hb (Nat.le_refl _), fun e e2 => ⟨(h.h5 e e2).1.below hb (h.h5 e e2).1.lt, (h.h5 e e2).2⟩, fun e e2 => (h.h6 e e2).below hb (Nat.le_refl _), fun e => (h.h10 e).below hb (Nat.le_refl _)⟩
theorem SO.do3 (h : SO w0 L a i false b5 false false s w) (hb : Below w.heap.size w w') {v : Value} (hv : OwI 2 w' w.heap.size v (L.take a)) : SO w0 L a i true b5 false false { s with v1 := v } w' :=
  ⟨(h.below hb).bel, fun _ _ => hv.mono h.bel.size, (h.below hb).h5, (by simp), (by simp)⟩
theorem SO.do5 (h : SO w0 L a i b3 false false false s w) : SO w0 L a i b3 true false false { s with q := w.heap.size } (w.alloc (.cells #[I i] 2)) := by
  have hb : Below w.heap.size w (w.alloc (.cells #[I i] 2)) := (Below.refl _ _).alloc (Nat.le_refl _) _
  exact ⟨(h.below hb).bel, (h.below hb).h3, fun _ _ => ⟨Blk.new w _ _, h.bel.size⟩, (by simp), (by simp)⟩
theorem SO.do6 (h : SO w0 L a i true true false false s w) {v : Value} (hv : OwI 2 w' w0.heap.size v (L.take a ++ [(i : Int)])) (hg : w.grownBy w' s.v1.ownBlock) : SO w0 L a i true true true false { s with v2 := v } w' :=
  ⟨(h.h3 rfl rfl).bel h.bel hg (Nat.le_refl _) h.bel.size, (by simp), (by simp), fun _ _ => hv, (by simp)⟩
theorem SO.do10 (h : SO w0 L a i true true true false s w) {v : Value} (hv : OwI 2 w' w0.heap.size v (L.take a ++ [(i : Int)] ++ L.drop a)) (hg : w.grownBy w' s.v2.ownBlock) : SO w0 L a i true true true true { s with v3 := v } w' :=
  ⟨(h.h6 rfl rfl).bel h.bel hg (Nat.le_refl _) h.bel.size, (by simp), (by simp), (by simp), fun _ => hv⟩
end
theorem OwI.cap_le {e : TypeId} {w : World} {B g n c : Nat} {zs : List Int} (h : OwI e w B (.slice (some ⟨g, 0, none⟩) n c) zs) : n ≤ c := by
  rcases h.2 with ⟨h1, _⟩ | ⟨g', cap, cur, h1, _, _, h2, _⟩
  · cases h1
  · injection h1 with _ h3 h4
    omega
theorem gi_take {L : List Int} {a j : Nat} (h : j < a) : gi L j = gi (L.take a) j := by
  unfold gi
  rw [List.getD_eq_getElem?_getD, List.getD_eq_getElem?_getD, List.getElem?_take, if_pos h]
theorem gi_drop3 {L : List Int} {a j : Nat} : gi L (a + j) = gi (L.drop a) j := by
  unfold gi
  rw [List.getD_eq_getElem?_getD, List.getD_eq_getElem?_getD, List.getElem?_drop]
def RetO (s : Nat) (A : Option Addr) (n c : Nat) (zs : List Int) (k : Nat) (w : World) (e : Ending) (w' : World) : Prop :=
  ∃ (g ci : Nat) (L : List Int), e = .returned (.slice (some ⟨g, 0, none⟩) k ci) ∧ OwI 2 w' w.heap.size (.slice (some ⟨g, 0, none⟩) k ci) L ∧ L.length = k ∧ Src w' s A n c zs ∧ w.grownBy w' (some s)

set_option maxHeartbeats 2000000 in
theorem order_any {s : Nat} {A : Option Addr} {n c : Nat} {zs : List Int} (k : Nat) (hk : k ≤ 5) (w : World) (hS : Src w s A n c zs) :
    Calls Try.prog 56 #[.pointer (some ⟨s, 0, none⟩), I k] w (RetO s A n c zs k w) := by
  have HS := Lib.hid hS
  have hsl := hS.lt
  clear hS
  go_enter Try.func56, Try.ntmps56
  go_wp2_with fail
  go_loopw [5, 6] (fun v t wr => ∃ (i g ci : Nat) (L : List Int), t = .int .i64 i ∧ i ≤ k ∧ v = .slice (some ⟨g, 0, none⟩) i ci ∧ OwI 2 wr w.heap.size (.slice (some ⟨g, 0, none⟩) i ci) L ∧ L.length = i ∧ Src wr s A n c zs ∧ w.grownBy wr (some s)) (fun _ t _ => k - (intOf t).toNat)
  case atStart => exact ⟨0, w.heap.size, 0, [], rfl, Nat.zero_le _, rfl, OwI.made (Nat.le_refl _), rfl, HS.out.alloc _, World.grownBy_alloc w _ _⟩
  case round =>
    obtain ⟨i, g, ci, L, rfl, hi, rfl, ho, hl, hS, hg⟩ := hrel
    have HS := Lib.hid hS
    have Ho := Lib.hid ho
    have Hl := Lib.hid hl
    have Hg := Lib.hid hg
    have hszr := hg.size
    clear hS ho hl hg
    by_cases hik : i < k
    · have hiz : (i : Int) < (k : Int) := by omega
      go_wp2_with fail
      have hnx := next_any ((i : Int) + 1) wr HS.out
      refine hnx.mono ?_
      rintro e w1 ⟨r, rfl, hr, _, hS1, hg1⟩
      obtain ⟨hr0, hr1⟩ := hr (by omega)
      obtain ⟨a, ha⟩ : ∃ a : Nat, (a : Int) = r := ⟨r.toNat, by omega⟩
      subst ha
      have hai : a ≤ i := by omega
      have haz : (a : Int) ≤ (i : Int) := by omega
      have ho1 := OwI.keep Ho.out (fun q hq => hg1.block q (Ho.out.lt q hq).2 (by have := (Ho.out.lt q hq).1; intro e; injection e with e; omega))
      have hci := ho1.cap_le
      have hac : a ≤ ci := Nat.le_trans hai hci
      have hacz : (a : Int) ≤ (ci : Int) := by omega
      obtain ⟨oa, hoa, hoa2⟩ : ∃ oa, (if ci = a then (some ⟨g, 0, none⟩ : Option Addr) else some ⟨g, a, none⟩) = some ⟨g, oa, none⟩ ∧ (¬ ci = a → oa = a) := by
        by_cases e : ci = a
        · exact ⟨0, by rw [if_pos e], fun h => absurd e h⟩
        · exact ⟨a, by rw [if_neg e], fun _ => rfl⟩
      have Hoa2 := Lib.hid hoa2
      clear hoa2
      have hicz : (i : Int) ≤ (ci : Int) := by omega
      have hlt1 := (ho1.lt g rfl).2
      have Ho1 := Lib.hid ho1
      have HC : Hid (∀ w', Below w1.heap.size w1 w' → ∀ j, j < i → w'.cell? ⟨g, j, none⟩ = some (I (gi L j))) := fun w' hb j hj =>
        (hb.cell (p := ⟨g, j, none⟩) hlt1).trans (OwI.spotAt ho1 (k := j) (by rw [Hl.out]; exact hj)).1
      have HS1 := Lib.hid hS1
      have Hg1 := Lib.hid (grown_trans Hg.out hg1)
      have hz1 := Hg1.out.size
      have htl : (L.take a).length = a := by rw [List.length_take, Hl.out]; omega
      have hdl : (L.drop a).length = i - a := by rw [List.length_drop, Hl.out]
      have Htl := Lib.hid htl
      have Hdl := Lib.hid hdl
      clear hnx hr hr0 hr1 hS1 hg1 ho1 htl hdl
      go_wp2_with fail
      refine wp_region_flags [] rfl (by kernel_rfl) (by kernel_rfl) [5] (by kernel_rfl) _
        (fun o : OS => [.slice (some ⟨g, 0, none⟩) i ci, I a, .slice (some ⟨g, 0, none⟩) a ci, o.v1, I i, .slice (some ⟨o.q, 0, none⟩) 1 1, o.v2, .slice (some ⟨g, 0, none⟩) i ci, I a, .slice (some ⟨g, oa, none⟩) (i - a) (ci - a), o.v3, o.v3])
        (by intro o; simp only [putAll, List.setIfInBounds_toArray, List.set_cons_succ, List.set_cons_zero]; rfl)
        [(5, .slice (some ⟨g, 0, none⟩) i ci)] rfl _
        (by intro o; simp only [setAll, List.setIfInBounds_toArray, List.set_cons_succ, List.set_cons_zero]; rfl) (by kernel_rfl)
        (fun d o w' => SO w1 L a i (d 3) (d 5) (d 6) (d 10) o w')
        ⟨undef, 0, undef, undef⟩ ⟨(Below.refl _ _).drew, by simp, by simp, by simp, by simp⟩ ?hop ?hQ
      case hop =>
        refine ⟨?_, ?_, ?_, ?_, ?_, ?_, ?_, ?_, ?_, ?_, ?_, ?_, trivial⟩
        · refine ⟨rfl, Flag.pure (fun _ _ _ h => h) fun d c w' hd hdeps hcl hS => ?_⟩
          skip
          clear hS hdeps hcl hd
          unfold Oper.wp
          go_simp
          exact ⟨rfl, fun t ht => by injection ht with ht; subst ht; rfl, rfl⟩
        · refine ⟨rfl, Flag.pure (fun _ _ _ h => h) fun d c w' hd hdeps hcl hS => ?_⟩
          skip
          clear hS hdeps hcl hd
          unfold Oper.wp
          go_simp
          exact ⟨rfl, fun t ht => by injection ht with ht; subst ht; rfl, rfl⟩
        · refine ⟨rfl, Flag.pure (fun _ _ _ h => h) fun d c w' hd hdeps hcl hS => ?_⟩
          skip
          clear hS hdeps hcl hd
          unfold Oper.wp
          go_simp
          exact ⟨rfl, fun t ht => by injection ht with ht; subst ht; rfl, rfl⟩
        · refine ⟨rfl, fun d o w' hd hdeps hcl hS => ?_⟩
          have d6 := hcl.down (k := 6) (j := 3) rfl (by kernel_rfl) hd
          have d10 := hcl.down (k := 10) (j := 6) rfl (by kernel_rfl) d6
          have hS : SO w1 L a i (d 3) (d 5) (d 6) (d 10) o w' := hS
          rw [hd, d6, d10] at hS
          have HSO := Lib.hid hS
          clear hS hdeps hcl
          unfold Oper.wp
          go_simp
          refine (own3_any g a ci (L.take a) w' (fun j hj => ?_) (Nat.lt_of_lt_of_le hlt1 HSO.out.bel.size) Htl.out (by omega)).mono ?_
          · rw [Htl.out] at hj
            rw [HC.out w' HSO.out.bel j (by omega), gi_take hj]
          · rintro e w6 ⟨v, rfl, ho, hb6⟩
            refine FlagPost.own ({ o with v1 := v } : OS) 21 v rfl rfl rfl ?_ rfl
            show SO _ _ _ _ true (d 5) (d 6) (d 10) _ _
            rw [d6, d10]
            exact HSO.out.do3 hb6 ho
        · refine ⟨rfl, Flag.pure (fun _ _ _ h => h) fun d c w' hd hdeps hcl hS => ?_⟩
          skip
          clear hS hdeps hcl hd
          unfold Oper.wp
          go_simp
          exact ⟨rfl, fun t ht => by injection ht with ht; subst ht; rfl, rfl⟩
        · refine ⟨rfl, fun d o w' hd hdeps hcl hS => ?_⟩
          have d6 := hcl.down (k := 6) (j := 5) rfl (by kernel_rfl) hd
          have d10 := hcl.down (k := 10) (j := 6) rfl (by kernel_rfl) d6
          have hS : SO w1 L a i (d 3) (d 5) (d 6) (d 10) o w' := hS
          rw [hd, d6, d10] at hS
          have hS2 := Lib.hid hS.do5
          clear hS hdeps hcl
          unfold Oper.wp
          go_simp
          refine FlagPost.own ({ o with q := w'.heap.size } : OS) 23 (.slice (some ⟨w'.heap.size, 0, none⟩) 1 1) rfl rfl rfl ?_ rfl
          show SO _ _ _ _ (d 3) true (d 6) (d 10) _ _
          rw [d6, d10]
          exact hS2.out
        · refine ⟨rfl, fun d o w' hd hdeps hcl hS => ?_⟩
          have d3 := hdeps 3 (by kernel_rfl)
          have d5 := hdeps 5 (by kernel_rfl)
          have d10 := hcl.down (k := 10) (j := 6) rfl (by kernel_rfl) hd
          have hS : SO w1 L a i (d 3) (d 5) (d 6) (d 10) o w' := hS
          rw [d3, d5, hd, d10] at hS
          refine wp_catI3 (.tmp 21) (.tmp 23) rfl w1.heap.size o.v1 (L.take a) [(i : Int)] rfl (hS.h3 rfl rfl) o.q 0 1 1 rfl (fun j hj => ?_) rfl (by rw [Htl.out]; omega) hS.bel.size ?_
          · have hj0 : j = 0 := by simpa using hj
            subst hj0
            exact ((hS.h5 rfl rfl).1.cell 0)
          · intro v' w6 ho hg
            refine FlagPost.own ({ o with v2 := v' } : OS) 24 v' rfl rfl rfl ?_ rfl
            show SO _ _ _ _ (d 3) (d 5) true (d 10) _ _
            rw [d3, d5, d10]
            exact hS.do6 ho hg
        · refine ⟨rfl, Flag.pure (fun _ _ _ h => h) fun d c w' hd hdeps hcl hS => ?_⟩
          skip
          clear hS hdeps hcl hd
          unfold Oper.wp
          go_simp
          exact ⟨rfl, fun t ht => by injection ht with ht; subst ht; rfl, rfl⟩
        · refine ⟨rfl, Flag.pure (fun _ _ _ h => h) fun d c w' hd hdeps hcl hS => ?_⟩
          skip
          clear hS hdeps hcl hd
          unfold Oper.wp
          go_simp
          exact ⟨rfl, fun t ht => by injection ht with ht; subst ht; rfl, rfl⟩
        · refine ⟨rfl, Flag.pure (fun _ _ _ h => h) fun d c w' hd hdeps hcl hS => ?_⟩
          skip
          clear hS hdeps hcl hd
          unfold Oper.wp
          go_simp
          exact ⟨rfl, fun t ht => by injection ht with ht; subst ht; rfl, rfl⟩
        · refine ⟨rfl, fun d o w' hd hdeps hcl hS => ?_⟩
          have d6 := hdeps 6 (by kernel_rfl)
          have d3 := hcl.up (k := 6) (j := 3) rfl (by kernel_rfl) d6
          have d5 := hcl.up (k := 6) (j := 5) rfl (by kernel_rfl) d6
          have d11 := hcl.down (k := 11) (j := 10) rfl (by kernel_rfl) hd
          have hS : SO w1 L a i (d 3) (d 5) (d 6) (d 10) o w' := hS
          rw [d3, d5, d6, hd] at hS
          refine wp_catI3 (.tmp 24) (.tmp 27) rfl w1.heap.size o.v2 (L.take a ++ [(i : Int)]) (L.drop a) rfl (hS.h6 rfl rfl) g oa (i - a) (ci - a) rfl (fun j hj => ?_) Hdl.out (by rw [List.length_append, Htl.out, List.length_singleton]; omega) hS.bel.size ?_
          · rw [Hdl.out] at hj
            rw [Hoa2.out (by omega), HC.out w' hS.bel (a + j) (by omega), gi_drop3]
          · intro v' w6 ho hg
            refine FlagPost.two ({ o with v3 := v' } : OS) 28 v' 11 _ 5 rfl rfl rfl ?_ rfl rfl rfl (by decide) d11
            show SO _ _ _ _ (d 3) (d 5) (d 6) true _ _
            rw [d3, d5, d6]
            exact hS.do10 ho hg
        · refine ⟨rfl, Flag.pure (fun _ _ _ h => h) fun d c w' hd hdeps hcl hS => ?_⟩
          skip
          clear hS hdeps hcl hd
          unfold Oper.wp
          go_simp
          exact ⟨rfl, fun t ht => by injection ht with ht; subst ht; rfl, rfl⟩
      case hQ =>
      intro fl o we hall hS
      have hS : SO w1 L a i (fl 3) (fl 5) (fl 6) (fl 10) o we := hS
      rw [hall 10 (by decide)] at hS
      have ho := hS.h10 rfl
      have hll : (L.take a ++ [(i : Int)] ++ L.drop a).length = i + 1 := by rw [List.length_append, List.length_append, Htl.out, Hdl.out, List.length_singleton]; omega
      obtain ⟨v1, q1, v2, v3⟩ := o
      obtain ⟨A7, c7, hv7, _⟩ := ho.form
      rw [hll] at hv7
      simp only at hv7
      subst hv7
      obtain ⟨g7, rfl⟩ : ∃ g7, A7 = some ⟨g7, 0, none⟩ := by
        rcases ho.2 with ⟨h1, h0⟩ | ⟨g', cap, cur, h1, _⟩
        · omega
        · injection h1 with h2 _ _
          exact ⟨g', h2⟩
      have Ho7 := Lib.hid (ho.mono hz1)
      have HS7 := Lib.hid (HS1.out.below hS.bel)
      have Hg7 := Lib.hid (grown_trans Hg1.out (grown_below hS.bel _))
      have Hll := Lib.hid hll
      clear hall hS ho hll
      go_wp2_with fail
      go_roundw
      case rel => exact ⟨i + 1, g7, c7, _, by go_num, Nat.succ_le_of_lt hik, rfl, Ho7.out, Hll.out, HS7.out, Hg7.out⟩
      case measure => simp [intOf]; omega
    · obtain rfl : i = k := by omega
      have hiz : ¬ ((i : Int) < (i : Int)) := by omega
      go_wp2_with fail
      go_ret
      exact ⟨g, ci, L, rfl, Ho.out, Hl.out, HS.out, Hg.out⟩
end Go.Proofs.Ytkbfocoaobiijaa
