/- Contracts of the index and the period of a map; the maps are valid where the theorems say so. -/
import Derived.Test.YtkbfocoaobiijaaC3
import Derived.Test.YtkbfocoaobiijaaPow
import Derived.Test.YtkbfocoaobiijaaSlM
import Derived.Test.YtkbfocoaobiijaaReg
import Derived.Test.YtkbfocoaobiijaaS1
namespace Go.Proofs.Ytkbfocoaobiijaa
open Go.RowKit
set_option maxRecDepth 100000

/-- where z stands first in ms, or -1 -/
def idxM (z : M) : List M → Int
  | [] => -1
  | x :: xs => if z = x then 0 else (if idxM z xs = -1 then -1 else idxM z xs + 1)
theorem idxM_ge (z : M) : ∀ xs, -1 ≤ idxM z xs ∧ (idxM z xs = -1 ↔ z ∉ xs)
  | [] => by simp [idxM]
  | x :: xs => by
    have ih := idxM_ge z xs
    unfold idxM
    by_cases h : z = x
    · simp [h]
    · rw [if_neg h]
      by_cases h1 : idxM z xs = -1
      · rw [if_pos h1]; simp [h, ih.2.1 h1]
      · rw [if_neg h1]
        have : z ∈ xs := by
          refine Classical.byContradiction fun hn => h1 (ih.2.2 hn)
        simp [this]; omega
theorem idxM_found {z : M} : ∀ {xs : List M} {k : Nat}, k < xs.length → gm xs k = z → (∀ j, j < k → gm xs j ≠ z) → idxM z xs = k
  | [], k, hk, _, _ => by simp at hk
  | x :: xs, 0, _, h, _ => by simp [gm] at h; simp [idxM, h]
  | x :: xs, k + 1, hk, h, hn => by
    have h0 : z ≠ x := fun e => hn 0 (by omega) (by simp [gm, e])
    have ih := idxM_found (z := z) (xs := xs) (k := k) (by simpa using hk) (by simpa [gm] using h) (fun j hj => by have := hn (j + 1) (by omega); simpa [gm] using this)
    unfold idxM
    rw [if_neg h0, ih, if_neg (by omega)]
    simp
theorem idxM_none {z : M} {xs : List M} (h : ∀ j, j < xs.length → gm xs j ≠ z) : idxM z xs = -1 := by
  rw [(idxM_ge z xs).2]
  intro hm
  obtain ⟨j, hj, e⟩ := List.getElem_of_mem hm
  exact h j hj (by rw [gm_eq hj]; exact e)

theorem indexM_any (A : Option Addr) (n c : Nat) (ms : List M) (z : M) (w : World) (hx : RdM w w.heap.size A ms) (hn : ms.length = n) (hb : n < 1073741824) :
    Calls Try.prog 73 #[.slice A n c, .agg (mc z)] w fun e w' => e = .returned (I (idxM z ms)) ∧ Below w.heap.size w w' := by
  have Hn := Lib.hid hn
  have Hx := Lib.hid hx
  clear hn hx
  go_enter Try.func73, Try.ntmps73
  go_wp2
  go_loopw [8] (fun i wr => ∃ k : Nat, k ≤ n ∧ i = .int .i64 k ∧ Hid (∀ j, j < k → gm ms j ≠ z) ∧ Blk wr w.heap.size 26 (mc z) ∧ Below w.heap.size w wr) (fun i _ => n - (intOf i).toNat)
  case atStart => exact ⟨0, by omega, rfl, fun j hj => absurd hj (by omega), Blk.new _ _ _, by (repeat (first | with_reducible assumption | with_reducible exact Below.refl _ _ | with_reducible refine Below.setCell ?_ (by first | omega | (simp <;> omega)) _ | with_reducible refine Below.alloc ?_ (by first | omega | (simp <;> omega)) _ | with_reducible refine Below.drew ?_ | with_reducible refine Below.drewN ?_ _))⟩
  case round =>
    obtain ⟨k, hk, rfl, hg, hB, hbel⟩ := hrel
    by_cases hlt : k < n
    · obtain ⟨b, off, rfl, hbb, c0, c1, c2, c3, c4, c5⟩ := RdM.at_ (Hx.out.below hbel) (k := k) (by rw [Hn.out]; exact hlt)
      obtain ⟨d0, d1, d2, d3, d4, d5⟩ := hB.six
      have i0 : (0 : Int) ≤ (k : Int) := by omega
      have i1 : (k : Int) < (n : Int) := by omega
      have heq := eqMap_run z (gm ms k)
      by_cases he : z = gm ms k
      · rw [decide_eq_true he] at heq
        have Hr : Hid (idxM z ms = k) := idxM_found (by rw [Hn.out]; exact hlt) he.symm hg.out
        clear he
        go_wp2_with fail
        go_quiet (fail)
        go_wp2
        go_ret
        exact ⟨ret_int Hr.out.symm, hbel.drewN _⟩
      · rw [decide_eq_false he] at heq
        have Hr : Hid (∀ j, j < k + 1 → gm ms j ≠ z) := by
          intro j hj
          by_cases e : j = k
          · subst e; exact fun h => he h.symm
          · exact hg.out j (by omega)
        clear he
        go_wp2_with fail
        go_quiet (fail)
        go_wp2
        go_roundw
        case rel => exact ⟨k + 1, by omega, by go_num, Hr.out, hB.drewN _, hbel.drewN _⟩
        case measure => simp [intOf]; omega
    · have Hr : Hid (idxM z ms = -1) := idxM_none fun j hj => hg.out j (by have := Hn.out; omega)
      go_wp2
      go_ret
      exact ⟨ret_int Hr.out.symm, hbel⟩

/-- the powers below n -/
def pws (f : M) (n : Nat) : List M := (List.range n).map (pw f)
theorem pws_length (f : M) (n : Nat) : (pws f n).length = n := by simp [pws]
theorem pws_succ (f : M) (n : Nat) : pws f (n + 1) = pws f n ++ [pw f n] := by simp [pws, List.range_succ]
theorem gm_pws (f : M) {k n : Nat} (h : k < n) : gm (pws f n) k = pw f k := by simp [gm, pws, List.getD, h]
def Apart (f : M) (n : Nat) : Prop := ∀ i j, i < j → j < n → pw f i ≠ pw f j
theorem apart_le {f : M} (hf : Valid f) {n : Nat} (h : Apart f n) : n ≤ 120 := by
  rcases Nat.lt_or_ge 120 n with hlt | hge
  · exact absurd (pw_60 hf) (h 60 120 (by omega) hlt)
  · exact hge
theorem apart_succ {f : M} {n : Nat} (h : Apart f n) (hn : ∀ k, k < n → pw f k ≠ pw f n) : Apart f (n + 1) := by
  intro i j hij hj
  by_cases e : j = n
  · subst e; exact hn i hij
  · exact h i j hij (by omega)
theorem apart_uniq {f : M} {n k n' k' : Nat} (h : Apart f n) (hk : k < n) (he : pw f k = pw f n) (h' : Apart f n') (hk' : k' < n') (he' : pw f k' = pw f n') : n = n' ∧ k = k' := by
  have hn : n = n' := by
    rcases Nat.lt_trichotomy n n' with h1 | h1 | h1
    · exact absurd he (h' k n hk h1)
    · exact h1
    · exact absurd he' (h k' n' hk' h1)
  subst hn
  refine ⟨rfl, ?_⟩
  rcases Nat.lt_trichotomy k k' with h1 | h1 | h1
  · exact absurd (he.trans he'.symm) (h k k' h1 hk')
  · exact h1
  · exact absurd (he'.trans he.symm) (h k' k h1 hk)
theorem apart_one (f : M) : Apart f 1 := fun i j hij hj => by omega
theorem idxM_pws {f : M} {n : Nat} (h : Apart f n) (hm : ¬ ∀ k, k < n → pw f k ≠ pw f n) : ∃ k, k < n ∧ pw f k = pw f n ∧ idxM (pw f n) (pws f n) = k := by
  have : ∃ k, k < n ∧ pw f k = pw f n := Classical.byContradiction fun hc => hm fun k hk he => hc ⟨k, hk, he⟩
  obtain ⟨k, hk, he⟩ := this
  refine ⟨k, hk, he, idxM_found (by rw [pws_length]; exact hk) (by rw [gm_pws f hk]; exact he) fun j hj => ?_⟩
  rw [gm_pws f (by omega), ← he]
  exact h j k hj hk
theorem idxM_pws_no {f : M} {n : Nat} (hm : ∀ k, k < n → pw f k ≠ pw f n) : idxM (pw f n) (pws f n) = -1 :=
  idxM_none fun j hj => by rw [pws_length] at hj; rw [gm_pws f hj]; exact hm j hj

theorem round_any (f : M) (w : World) (hf : Valid f) :
    Calls Try.prog 44 #[.agg (mc f)] w fun e w' => (∃ n k : Nat, Apart f n ∧ k < n ∧ pw f k = pw f n ∧ e = .returned (.tuple #[I k, I (n - k)])) ∧ Below w.heap.size w w' := by
  have hp1 := hf.p1
  have hp5 := hf.p5
  go_enter Try.func44, Try.ntmps44
  go_wp2_with fail
  refine (identity_any f.p _ hp1 hp5).mono ?_
  rintro e w1 ⟨rfl, hb⟩
  have hB0 : Blk w1 w.heap.size 26 (mc f) := Blk.below (Blk.new w _ _) hb (by simp)
  have hbel : Below w.heap.size w w1 := Below.trans (by (repeat (first | with_reducible assumption | with_reducible exact Below.refl _ _ | with_reducible refine Below.setCell ?_ (by first | omega | (simp <;> omega)) _ | with_reducible refine Below.alloc ?_ (by first | omega | (simp <;> omega)) _ | with_reducible refine Below.drew ?_ | with_reducible refine Below.drewN ?_ _))) (hb.mono (by simp))
  have hlt := hB0.lt
  clear hb
  go_wp2_with fail
  go_loopg [4] 120 (fun gk v wr => ∃ n : Nat, n + gk = 121 ∧ 1 ≤ n ∧ Hid (Apart f n) ∧ OwM 26 wr (w.heap.size + 1) v (pws f n) ∧ Six wr w.heap.size f ∧ Below w.heap.size w wr)
  case atStart => exact ⟨1, rfl, Nat.le_refl _, apart_one f, OwM.one (m := one f.p) (by omega), (hB0.alloc _).six, hbel.alloc hbel.size _⟩
  case round =>
    clear hB0 hbel hlt
    obtain ⟨n, hn, hn1, Ha, ho, hs, hbel⟩ := hrel
    obtain ⟨A, c, hv, hr⟩ := ho.form
    rw [pws_length] at hv
    subst hv
    obtain ⟨b, off, rfl, hbb, hsix⟩ := RdM.at_ hr (k := n - 1) (by rw [pws_length]; omega)
    have hpos : n - 1 < n := by omega
    rw [gm_pws f hpos] at hsix
    have Hr := Lib.hid hr
    have hwr : IntKind.i64.wrap ((n : Int) - 1) = ((n - 1 : Nat) : Int) := by rw [IntWalk.i64_in _ ⟨by omega, by omega⟩]; omega
    have hvn := pw_valid hf (n - 1)
    have hmul : mul (pw f (n - 1)) f = pw f n := by
      obtain ⟨k, rfl⟩ : ∃ k, n = k + 1 := ⟨n - 1, by omega⟩
      rfl
    have i0 : (0 : Int) ≤ ((n - 1 : Nat) : Int) := by omega
    have i1 : ((n - 1 : Nat) : Int) < (n : Int) := by omega
    have Hmul := Lib.hid hmul
    have hlt0 := hs.lt
    have hlt1 := hbb
    have HS0 : Hid (Six wr.drew w.heap.size f ∧ SixAt wr.drew b (off + (n - 1) * 6) (pw f (n - 1)) ∧ Below w.heap.size w wr.drew) := ⟨hs, hsix, hbel.drew⟩
    clear hr hmul hs hsix hbel
    go_wp2_with fail
    refine wp_region_box [] rfl (by kernel_rfl) (by kernel_rfl) (by kernel_rfl) (fun w' => Six w' (w.heap.size) (f) ∧ SixAt w' (b) (off + (n - 1) * 6) (pw f (n - 1)) ∧ Below w.heap.size w w') _
      (fun q => [.slice (some ⟨b, off, none⟩) n c, .slice (some ⟨b, off, none⟩) n c, I n, I ((n - 1 : Nat) : Int), .pointer (some ⟨b, off + (n - 1) * 6, none⟩), .agg (mc (pw f (n - 1))), .agg (mc f), .agg (mc (mul (pw f (n - 1)) f)), .pointer (some ⟨q, 0, none⟩), undef]) (by intro q; simp only [putAll, List.setIfInBounds_toArray, List.set_cons_succ, List.set_cons_zero]; rfl) ?hS 8 9 5 _ _ rfl rfl 26 (mc M0) (mc (mul (pw f (n - 1)) f)) (by kernel_rfl) (by kernel_rfl) (by decide) (fun _ _ => rfl) ?hop ?hal ?hst ?hQ
    case hS => exact HS0.out
    case hop =>
      intro q
      refine ⟨.inr ?_, .inr ?_, .inr ?_, .inr ?_, .inr ?_, .inr ?_, .inr ?_, .inr ?_, .inl rfl, .inl rfl, trivial⟩
      · (with_reducible refine Fix.of ?_ ?_; rfl; intro w' hS; have s0 := hS.1; have s1 := hS.2.1; unfold Oper.wp; go_simp; first | done | exact Below.refl _ _ | exact ⟨hS, Below.refl _ _⟩ | exact ⟨hS.2.2, Below.refl _ _⟩ | exact ⟨hS.1, hS.2.1, Below.refl _ _⟩ | exact ⟨⟨hS.1, hS.2.1⟩, Below.refl _ _⟩ | exact ⟨hS.1, hS.2.1, hS.2.2, Below.refl _ _⟩)
      · (with_reducible refine Fix.of ?_ ?_; rfl; intro w' hS; have s0 := hS.1; have s1 := hS.2.1; unfold Oper.wp; go_simp; first | done | exact Below.refl _ _ | exact ⟨hS, Below.refl _ _⟩ | exact ⟨hS.2.2, Below.refl _ _⟩ | exact ⟨hS.1, hS.2.1, Below.refl _ _⟩ | exact ⟨⟨hS.1, hS.2.1⟩, Below.refl _ _⟩ | exact ⟨hS.1, hS.2.1, hS.2.2, Below.refl _ _⟩)
      · (with_reducible refine Fix.of ?_ ?_; rfl; intro w' hS; have s0 := hS.1; have s1 := hS.2.1; unfold Oper.wp; go_simp; first | done | exact Below.refl _ _ | exact ⟨hS, Below.refl _ _⟩ | exact ⟨hS.2.2, Below.refl _ _⟩ | exact ⟨hS.1, hS.2.1, Below.refl _ _⟩ | exact ⟨⟨hS.1, hS.2.1⟩, Below.refl _ _⟩ | exact ⟨hS.1, hS.2.1, hS.2.2, Below.refl _ _⟩)
      · (with_reducible refine Fix.of ?_ ?_; rfl; intro w' hS; have s0 := hS.1; have s1 := hS.2.1; unfold Oper.wp; go_simp; first | done | exact Below.refl _ _ | exact ⟨hS, Below.refl _ _⟩ | exact ⟨hS.2.2, Below.refl _ _⟩ | exact ⟨hS.1, hS.2.1, Below.refl _ _⟩ | exact ⟨⟨hS.1, hS.2.1⟩, Below.refl _ _⟩ | exact ⟨hS.1, hS.2.1, hS.2.2, Below.refl _ _⟩)
      · (with_reducible refine Fix.of ?_ ?_; rfl; intro w' hS; have s0 := hS.1; have s1 := hS.2.1; unfold Oper.wp; go_simp; first | done | exact Below.refl _ _ | exact ⟨hS, Below.refl _ _⟩ | exact ⟨hS.2.2, Below.refl _ _⟩ | exact ⟨hS.1, hS.2.1, Below.refl _ _⟩ | exact ⟨⟨hS.1, hS.2.1⟩, Below.refl _ _⟩ | exact ⟨hS.1, hS.2.1, hS.2.2, Below.refl _ _⟩)
      · (with_reducible refine Fix.of ?_ ?_; rfl; intro w' hS; have s0 := hS.1; have s1 := hS.2.1; unfold Oper.wp; go_simp; first | done | exact Below.refl _ _ | exact ⟨hS, Below.refl _ _⟩ | exact ⟨hS.2.2, Below.refl _ _⟩ | exact ⟨hS.1, hS.2.1, Below.refl _ _⟩ | exact ⟨⟨hS.1, hS.2.1⟩, Below.refl _ _⟩ | exact ⟨hS.1, hS.2.1, hS.2.2, Below.refl _ _⟩)
      · (with_reducible refine Fix.of ?_ ?_; rfl; intro w' hS; have s0 := hS.1; have s1 := hS.2.1; unfold Oper.wp; go_simp; first | done | exact Below.refl _ _ | exact ⟨hS, Below.refl _ _⟩ | exact ⟨hS.2.2, Below.refl _ _⟩ | exact ⟨hS.1, hS.2.1, Below.refl _ _⟩ | exact ⟨⟨hS.1, hS.2.1⟩, Below.refl _ _⟩ | exact ⟨hS.1, hS.2.1, hS.2.2, Below.refl _ _⟩)
      · (with_reducible refine Fix.of ?_ ?_; rfl; intro w' hS; have s3 := Lib.hid hS; unfold Oper.wp; clear hS; go_simp; refine (times_any (pw f (n - 1)) f _ hvn).mono ?_; rintro e w1 ⟨rfl, hb⟩; exact ⟨rfl, ⟨s3.out.1.below hb s3.out.1.lt, s3.out.2.1.below hb s3.out.2.1.lt, s3.out.2.2.trans (hb.mono s3.out.2.2.size)⟩, hb⟩)
    case hal =>
      intro q
      refine ⟨rfl, fun w' hS => ?_⟩
      have s3 := Lib.hid hS
      clear hS
      unfold Oper.wp
      go_simp
      exact ⟨rfl, s3.out.1.alloc _, s3.out.2.1.alloc _, s3.out.2.2.alloc s3.out.2.2.size _⟩
    case hst =>
      intro q
      refine ⟨rfl, fun w' hS hq hB => ?_⟩
      have s3 := Lib.hid hS
      clear hS
      have d := hB.six
      have z := hB.fr6
      unfold Oper.wp
      go_simp
      have hq2 := hq
      try simp only [World.size_alloc] at hq2
      exact ⟨⟨s3.out.1.st6 (by first | omega | (have := hlt0; omega)) _, s3.out.2.1.st6 (by first | omega | (have := hlt1; omega)) _, below_st6 s3.out.2.2 (by first | omega | (have := s3.out.2.2.size; omega)) _⟩, hB.st6 _, below_st6 (Below.refl _ _) (by first | omega | (simp <;> omega)) _⟩
    case hQ =>
      intro q w' hS hq hB hbel
      rw [Hmul.out] at hB ⊢
      have hs := hS.1
      have hbl := hS.2.2
      replace ho := ho.below hbel (Nat.le_refl _)
      have hr := Hr.out.below hbel
      have hl := hbel.size
      have hl0 := hs.lt
      obtain ⟨d0, d1, d2, d3, d4, d5⟩ := hB.six
      clear hS hbel HS0 Hr hlt0 hlt1
      have hq2 := hB.lt
      go_wp2_with fail
      refine (indexM_any _ n c (pws f n) (pw f n) _ (Rd.more hr hl) (pws_length f n) (by omega)).mono ?_
      rintro e w3 ⟨rfl, hb⟩
      replace hs := hs.below hb hl0
      replace hB := hB.below hb hq2
      replace ho := ho.below hb (Nat.le_refl _)
      replace hbl := hbl.trans (hb.mono hbl.size)
      clear hb hr d0 d1 d2 d3 d4 d5 hl0 hq2
      by_cases hm : ∀ k, k < n → pw f k ≠ pw f n
      · rw [idxM_pws_no hm]
        have Ha' : Hid (Apart f (n + 1)) := apart_succ Ha.out hm
        have Hn' : Hid (n + 1 ≤ 120) := apart_le hf Ha'.out
        clear hm
        obtain ⟨d0, d1, d2, d3, d4, d5⟩ := hB.six
        have hsz := hbl.size
        go_wp2_with (at_builtin; refine wpList_pushM rfl (.tmp 29) (.tmp 31) rfl (w.heap.size + 1) (.slice (some ⟨b, off, none⟩) n c) (pws f n) rfl (ho.alloc _) n (pws_length f n) w3.heap.size 1 (pw f n) rfl (Blk.six (Blk.new _ _ _)) (by omega) (by have := hs.lt; simp; omega) (w3.heap.size + 1) (by simp) ?_; intro g' cap w4 ho' hgr hg' hlt')
        go_roundg (gk - 1)
        case rel => exact ⟨n + 1, by have := Hn'.out; omega, by omega, Ha', by rw [pws_succ]; exact ho', (hs.alloc _).grown hgr (ho.ne (by omega)), (ho.alloc _).bel (hbl.alloc hsz _) hgr (by omega) (by simp; omega)⟩
        case measure => have := Hn'.out; omega
      · obtain ⟨k, hk, he, hi⟩ := idxM_pws Ha.out hm
        rw [hi]
        have He := Lib.hid he
        clear hi hm he
        have hkk : (0 : Int) ≤ (k : Int) := by omega
        go_wp2
        go_ret2
        exact ⟨⟨n, k, Ha.out, hk, He.out, rfl⟩, hbl⟩

theorem l01Index_any (f : M) (w : World) (hf : Valid f) :
    Calls Try.prog 45 #[.agg (mc f)] w fun e w' => (∃ n k : Nat, Apart f n ∧ k < n ∧ pw f k = pw f n ∧ e = .returned (.tuple #[I k, I (n - k)])) ∧ Below w.heap.size w w' := by
  have hp1 := hf.p1
  have hp5 := hf.p5
  go_enter Try.func45, Try.ntmps45
  go_wp2_with fail
  refine (l01Identity_any f.p _ hp1 hp5).mono ?_
  rintro e w1 ⟨rfl, hb⟩
  have hB0 : Blk w1 w.heap.size 26 (mc f) := Blk.below (Blk.new w _ _) hb (by simp)
  have hbel : Below w.heap.size w w1 := Below.trans (by (repeat (first | with_reducible assumption | with_reducible exact Below.refl _ _ | with_reducible refine Below.setCell ?_ (by first | omega | (simp <;> omega)) _ | with_reducible refine Below.alloc ?_ (by first | omega | (simp <;> omega)) _ | with_reducible refine Below.drew ?_ | with_reducible refine Below.drewN ?_ _))) (hb.mono (by simp))
  have hlt := hB0.lt
  clear hb
  go_wp2_with fail
  go_loopg [4] 120 (fun gk v wr => ∃ n : Nat, n + gk = 121 ∧ 1 ≤ n ∧ Hid (Apart f n) ∧ OwM 26 wr (w.heap.size + 1) v (pws f n) ∧ Six wr w.heap.size f ∧ Below w.heap.size w wr)
  case atStart => exact ⟨1, rfl, Nat.le_refl _, apart_one f, OwM.one (m := one f.p) (by omega), (hB0.alloc _).six, hbel.alloc hbel.size _⟩
  case round =>
    clear hB0 hbel hlt
    obtain ⟨n, hn, hn1, Ha, ho, hs, hbel⟩ := hrel
    obtain ⟨A, c, hv, hr⟩ := ho.form
    rw [pws_length] at hv
    subst hv
    obtain ⟨b, off, rfl, hbb, hsix⟩ := RdM.at_ hr (k := n - 1) (by rw [pws_length]; omega)
    have hpos : n - 1 < n := by omega
    rw [gm_pws f hpos] at hsix
    have Hr := Lib.hid hr
    have hwr : IntKind.i64.wrap ((n : Int) - 1) = ((n - 1 : Nat) : Int) := by rw [IntWalk.i64_in _ ⟨by omega, by omega⟩]; omega
    have hvn := pw_valid hf (n - 1)
    have hmul : mul (pw f (n - 1)) f = pw f n := by
      obtain ⟨k, rfl⟩ : ∃ k, n = k + 1 := ⟨n - 1, by omega⟩
      rfl
    have i0 : (0 : Int) ≤ ((n - 1 : Nat) : Int) := by omega
    have i1 : ((n - 1 : Nat) : Int) < (n : Int) := by omega
    have Hmul := Lib.hid hmul
    have hlt0 := hs.lt
    have hlt1 := hbb
    have HS0 : Hid (Six wr.drew w.heap.size f ∧ SixAt wr.drew b (off + (n - 1) * 6) (pw f (n - 1)) ∧ Below w.heap.size w wr.drew) := ⟨hs, hsix, hbel.drew⟩
    clear hr hmul hs hsix hbel
    go_wp2_with fail
    refine wp_region_box [] rfl (by kernel_rfl) (by kernel_rfl) (by kernel_rfl) (fun w' => Six w' (w.heap.size) (f) ∧ SixAt w' (b) (off + (n - 1) * 6) (pw f (n - 1)) ∧ Below w.heap.size w w') _
      (fun q => [.slice (some ⟨b, off, none⟩) n c, .slice (some ⟨b, off, none⟩) n c, I n, I ((n - 1 : Nat) : Int), .pointer (some ⟨b, off + (n - 1) * 6, none⟩), .agg (mc (pw f (n - 1))), .agg (mc f), .agg (mc (mul (pw f (n - 1)) f)), .pointer (some ⟨q, 0, none⟩), undef]) (by intro q; simp only [putAll, List.setIfInBounds_toArray, List.set_cons_succ, List.set_cons_zero]; rfl) ?hS 8 9 5 _ _ rfl rfl 26 (mc M0) (mc (mul (pw f (n - 1)) f)) (by kernel_rfl) (by kernel_rfl) (by decide) (fun _ _ => rfl) ?hop ?hal ?hst ?hQ
    case hS => exact HS0.out
    case hop =>
      intro q
      refine ⟨.inr ?_, .inr ?_, .inr ?_, .inr ?_, .inr ?_, .inr ?_, .inr ?_, .inr ?_, .inl rfl, .inl rfl, trivial⟩
      · (with_reducible refine Fix.of ?_ ?_; rfl; intro w' hS; have s0 := hS.1; have s1 := hS.2.1; unfold Oper.wp; go_simp; first | done | exact Below.refl _ _ | exact ⟨hS, Below.refl _ _⟩ | exact ⟨hS.2.2, Below.refl _ _⟩ | exact ⟨hS.1, hS.2.1, Below.refl _ _⟩ | exact ⟨⟨hS.1, hS.2.1⟩, Below.refl _ _⟩ | exact ⟨hS.1, hS.2.1, hS.2.2, Below.refl _ _⟩)
      · (with_reducible refine Fix.of ?_ ?_; rfl; intro w' hS; have s0 := hS.1; have s1 := hS.2.1; unfold Oper.wp; go_simp; first | done | exact Below.refl _ _ | exact ⟨hS, Below.refl _ _⟩ | exact ⟨hS.2.2, Below.refl _ _⟩ | exact ⟨hS.1, hS.2.1, Below.refl _ _⟩ | exact ⟨⟨hS.1, hS.2.1⟩, Below.refl _ _⟩ | exact ⟨hS.1, hS.2.1, hS.2.2, Below.refl _ _⟩)
      · (with_reducible refine Fix.of ?_ ?_; rfl; intro w' hS; have s0 := hS.1; have s1 := hS.2.1; unfold Oper.wp; go_simp; first | done | exact Below.refl _ _ | exact ⟨hS, Below.refl _ _⟩ | exact ⟨hS.2.2, Below.refl _ _⟩ | exact ⟨hS.1, hS.2.1, Below.refl _ _⟩ | exact ⟨⟨hS.1, hS.2.1⟩, Below.refl _ _⟩ | exact ⟨hS.1, hS.2.1, hS.2.2, Below.refl _ _⟩)
      · (with_reducible refine Fix.of ?_ ?_; rfl; intro w' hS; have s0 := hS.1; have s1 := hS.2.1; unfold Oper.wp; go_simp; first | done | exact Below.refl _ _ | exact ⟨hS, Below.refl _ _⟩ | exact ⟨hS.2.2, Below.refl _ _⟩ | exact ⟨hS.1, hS.2.1, Below.refl _ _⟩ | exact ⟨⟨hS.1, hS.2.1⟩, Below.refl _ _⟩ | exact ⟨hS.1, hS.2.1, hS.2.2, Below.refl _ _⟩)
      · (with_reducible refine Fix.of ?_ ?_; rfl; intro w' hS; have s0 := hS.1; have s1 := hS.2.1; unfold Oper.wp; go_simp; first | done | exact Below.refl _ _ | exact ⟨hS, Below.refl _ _⟩ | exact ⟨hS.2.2, Below.refl _ _⟩ | exact ⟨hS.1, hS.2.1, Below.refl _ _⟩ | exact ⟨⟨hS.1, hS.2.1⟩, Below.refl _ _⟩ | exact ⟨hS.1, hS.2.1, hS.2.2, Below.refl _ _⟩)
      · (with_reducible refine Fix.of ?_ ?_; rfl; intro w' hS; have s0 := hS.1; have s1 := hS.2.1; unfold Oper.wp; go_simp; first | done | exact Below.refl _ _ | exact ⟨hS, Below.refl _ _⟩ | exact ⟨hS.2.2, Below.refl _ _⟩ | exact ⟨hS.1, hS.2.1, Below.refl _ _⟩ | exact ⟨⟨hS.1, hS.2.1⟩, Below.refl _ _⟩ | exact ⟨hS.1, hS.2.1, hS.2.2, Below.refl _ _⟩)
      · (with_reducible refine Fix.of ?_ ?_; rfl; intro w' hS; have s0 := hS.1; have s1 := hS.2.1; unfold Oper.wp; go_simp; first | done | exact Below.refl _ _ | exact ⟨hS, Below.refl _ _⟩ | exact ⟨hS.2.2, Below.refl _ _⟩ | exact ⟨hS.1, hS.2.1, Below.refl _ _⟩ | exact ⟨⟨hS.1, hS.2.1⟩, Below.refl _ _⟩ | exact ⟨hS.1, hS.2.1, hS.2.2, Below.refl _ _⟩)
      · (with_reducible refine Fix.of ?_ ?_; rfl; intro w' hS; have s3 := Lib.hid hS; unfold Oper.wp; clear hS; go_simp; refine (l01Times_any (pw f (n - 1)) f _ hvn).mono ?_; rintro e w1 ⟨rfl, hb⟩; exact ⟨rfl, ⟨s3.out.1.below hb s3.out.1.lt, s3.out.2.1.below hb s3.out.2.1.lt, s3.out.2.2.trans (hb.mono s3.out.2.2.size)⟩, hb⟩)
    case hal =>
      intro q
      refine ⟨rfl, fun w' hS => ?_⟩
      have s3 := Lib.hid hS
      clear hS
      unfold Oper.wp
      go_simp
      exact ⟨rfl, s3.out.1.alloc _, s3.out.2.1.alloc _, s3.out.2.2.alloc s3.out.2.2.size _⟩
    case hst =>
      intro q
      refine ⟨rfl, fun w' hS hq hB => ?_⟩
      have s3 := Lib.hid hS
      clear hS
      have d := hB.six
      have z := hB.fr6
      unfold Oper.wp
      go_simp
      have hq2 := hq
      try simp only [World.size_alloc] at hq2
      exact ⟨⟨s3.out.1.st6 (by first | omega | (have := hlt0; omega)) _, s3.out.2.1.st6 (by first | omega | (have := hlt1; omega)) _, below_st6 s3.out.2.2 (by first | omega | (have := s3.out.2.2.size; omega)) _⟩, hB.st6 _, below_st6 (Below.refl _ _) (by first | omega | (simp <;> omega)) _⟩
    case hQ =>
      intro q w' hS hq hB hbel
      rw [Hmul.out] at hB ⊢
      have hs := hS.1
      have hbl := hS.2.2
      replace ho := ho.below hbel (Nat.le_refl _)
      have hr := Hr.out.below hbel
      have hl := hbel.size
      have hl0 := hs.lt
      clear hS hbel HS0 Hr hlt0 hlt1
      have hq2 := hB.lt
      have Hr2 := Lib.hid hr
      have hs1 := hB.six
      clear hr hB
      go_wp2_with fail
      go_loopw [6] (fun i wq => ∃ k : Nat, k ≤ n ∧ i = .int .i64 k ∧ Hid (∀ j, j < k → pw f j ≠ pw f n) ∧ Hid (∃ nq, wq = w'.drewN nq)) (fun i _ => n - (intOf i).toNat)
      case atStart => exact ⟨0, by omega, rfl, fun j hj => absurd hj (by omega), ⟨0, rfl⟩⟩
      case round =>
        obtain ⟨k, hk, rfl, hg, Hq⟩ := hrel
        obtain ⟨nq, rfl⟩ := Hq.out
        have ho2 := ho.drewN nq
        have hs2 : Six (w'.drewN nq) w.heap.size f := hs
        have hbl2 := hbl.drewN nq
        have hB2 : Six (w'.drewN nq) q (pw f n) := hs1
        have hr2 : RdM (w'.drewN nq) wr.heap.size (some ⟨b, off, none⟩) (pws f n) := Hr2.out
        have hsz0 : wr.heap.size ≤ (w'.drewN nq).heap.size := hl
        have Hr3 := Lib.hid hr2
        clear hr2
        generalize w'.drewN nq = w9 at Hq ho2 hs2 hbl2 hB2 hsz0 Hr3 ⊢
        by_cases hlt : k < n
        · obtain ⟨b', off', he, hbb', hsx⟩ := RdM.at_ Hr3.out (k := k) (by rw [pws_length]; exact hlt)
          injection he with he
          injection he with he1 he2
          subst he1 he2
          rw [gm_pws f hlt] at hsx
          obtain ⟨c0, c1, c2, c3, c4, c5⟩ := hsx
          obtain ⟨d0, d1, d2, d3, d4, d5⟩ := hB2
          have i2 : (0 : Int) ≤ (k : Int) := by omega
          have i3 : (k : Int) < (n : Int) := by omega
          have heq := eqMap_run (pw f k) (pw f n)
          by_cases he : pw f k = pw f n
          · rw [decide_eq_true he] at heq
            have He := Lib.hid he
            clear he
            go_wp2_with fail
            go_quiet (fail)
            go_wp2
            go_ret2
            exact ⟨⟨n, k, Ha.out, hlt, He.out, rfl⟩, hbl2.drewN _⟩
          · rw [decide_eq_false he] at heq
            have Hn : Hid (∀ j, j < k + 1 → pw f j ≠ pw f n) := by
              intro j hj
              by_cases e : j = k
              · subst e; exact he
              · exact hg.out j (by omega)
            clear he
            go_wp2_with fail
            go_quiet (fail)
            go_wp2
            go_roundw
            case rel => exact ⟨k + 1, by omega, by go_num, Hn.out, by obtain ⟨z, hz⟩ := Hq.out; exact ⟨z + nq, by rw [hz]; simp [World.drewN, Nat.add_assoc]⟩⟩
            case measure => simp [intOf]; omega
        · have hm : ∀ k, k < n → pw f k ≠ pw f n := fun j hj => hg.out j (by omega)
          have Ha' : Hid (Apart f (n + 1)) := apart_succ Ha.out hm
          have Hn' : Hid (n + 1 ≤ 120) := apart_le hf Ha'.out
          clear hm
          obtain ⟨d0, d1, d2, d3, d4, d5⟩ := hB2
          have hsz := hbl2.size
          go_wp2_with (at_builtin; refine wpList_pushM rfl (.tmp 36) (.tmp 38) rfl (w.heap.size + 1) (.slice (some ⟨b, off, none⟩) n c) (pws f n) rfl (ho2.alloc _) n (pws_length f n) w9.heap.size 1 (pw f n) rfl (Blk.six (Blk.new _ _ _)) (by omega) (by have := hs2.lt; simp; omega) (w9.heap.size + 1) (by simp) ?_; intro g' cap w4 ho' hgr hg' hlt')
          go_roundg (gk - 1)
          case rel => exact ⟨n + 1, by have := Hn'.out; omega, by omega, Ha', by rw [pws_succ]; exact ho', (hs2.alloc _).grown hgr (ho2.ne (by omega)), (ho2.alloc _).bel (hbl2.alloc hsz _) hgr (by omega) (by simp; omega)⟩
          case measure => have := Hn'.out; omega

def IP (f : M) (i p : Int) : Prop := (isMap f = false ∧ i = 0 ∧ p = 0) ∨ (isMap f = true ∧ ∃ n k : Nat, Apart f n ∧ k < n ∧ pw f k = pw f n ∧ i = k ∧ p = n - k)
theorem IP_bad {f : M} (h : isMap f = false) : IP f 0 0 := .inl ⟨h, rfl, rfl⟩
theorem IP_good {f : M} (h : isMap f = true) {n k : Nat} (ha : Apart f n) (hk : k < n) (he : pw f k = pw f n) : IP f k (n - k) := .inr ⟨h, n, k, ha, hk, he, rfl, rfl⟩
theorem IP_uniq {f : M} {i p i' p' : Int} (h : IP f i p) (h' : IP f i' p') : i = i' ∧ p = p' := by
  rcases h with ⟨hb, rfl, rfl⟩ | ⟨hb, n, k, ha, hk, he, rfl, rfl⟩
  · rcases h' with ⟨_, rfl, rfl⟩ | ⟨hb', _⟩
    · exact ⟨rfl, rfl⟩
    · rw [hb] at hb'; cases hb'
  · rcases h' with ⟨hb', _⟩ | ⟨_, n', k', ha', hk', he', rfl, rfl⟩
    · rw [hb] at hb'; cases hb'
    · obtain ⟨rfl, rfl⟩ := apart_uniq ha hk he ha' hk' he'
      exact ⟨rfl, rfl⟩

theorem ImplIndex_any (f : M) (w : World) :
    Calls Try.prog 8 #[.agg (mc f)] w fun e w' => (∃ i p : Int, IP f i p ∧ e = .returned (.tuple #[I i, I p, I (cInv (isMap f))])) ∧ Below w.heap.size w w' := by
  cases h : isMap f
  · have hi : Hid (IP f 0 0) := IP_bad h
    go_enter Try.func8, Try.ntmps8
    go_wp2_with fail
    refine (isMap_any _ _).mono ?_
    rintro e w1 ⟨rfl, hb⟩
    rw [h]
    have hbel : Below w.heap.size w w1 := Below.trans (by (repeat (first | with_reducible assumption | with_reducible exact Below.refl _ _ | with_reducible refine Below.setCell ?_ (by first | omega | (simp <;> omega)) _ | with_reducible refine Below.alloc ?_ (by first | omega | (simp <;> omega)) _ | with_reducible refine Below.drew ?_ | with_reducible refine Below.drewN ?_ _))) (hb.mono (by simp <;> omega))
    clear hb
    go_wp2
    go_ret3
    exact ⟨⟨0, 0, hi.out, rfl⟩, hbel⟩
  · have hv := (isMap_iff f).1 h
    go_enter Try.func8, Try.ntmps8
    go_wp2_with fail
    refine (isMap_any _ _).mono ?_
    rintro e w1 ⟨rfl, hb⟩
    rw [h]
    have hs : Six w1 w.heap.size f := Six.below (Blk.six (Blk.new w _ _)) hb (by simp)
    have hbel : Below w.heap.size w w1 := Below.trans (by (repeat (first | with_reducible assumption | with_reducible exact Below.refl _ _ | with_reducible refine Below.setCell ?_ (by first | omega | (simp <;> omega)) _ | with_reducible refine Below.alloc ?_ (by first | omega | (simp <;> omega)) _ | with_reducible refine Below.drew ?_ | with_reducible refine Below.drewN ?_ _))) (hb.mono (by simp <;> omega))
    clear hb
    go_wp2_with fail
    refine (round_any f _ hv).mono ?_
    rintro e w2 ⟨⟨n, k, ha, hk, he, rfl⟩, hb⟩
    replace hbel := hbel.trans (hb.mono hbel.size)
    have hi : Hid (IP f k (n - k)) := IP_good h ha hk he
    clear hb ha he
    go_wp2
    go_ret3
    exact ⟨⟨k, n - k, hi.out, rfl⟩, hbel⟩

theorem SpecIndex_any (f : M) (w : World) :
    Calls Try.prog 9 #[.agg (mc f)] w fun e w' => (∃ i p : Int, IP f i p ∧ e = .returned (.tuple #[I i, I p, I (cInv (isMap f))])) ∧ Below w.heap.size w w' := by
  cases h : isMap f
  · have hi : Hid (IP f 0 0) := IP_bad h
    go_enter Try.func9, Try.ntmps9
    go_wp2_with fail
    refine (l01Is_any _ _).mono ?_
    rintro e w1 ⟨rfl, hb⟩
    rw [h]
    have hbel : Below w.heap.size w w1 := Below.trans (by (repeat (first | with_reducible assumption | with_reducible exact Below.refl _ _ | with_reducible refine Below.setCell ?_ (by first | omega | (simp <;> omega)) _ | with_reducible refine Below.alloc ?_ (by first | omega | (simp <;> omega)) _ | with_reducible refine Below.drew ?_ | with_reducible refine Below.drewN ?_ _))) (hb.mono (by simp <;> omega))
    clear hb
    go_wp2
    go_ret3
    exact ⟨⟨0, 0, hi.out, rfl⟩, hbel⟩
  · have hv := (isMap_iff f).1 h
    go_enter Try.func9, Try.ntmps9
    go_wp2_with fail
    refine (l01Is_any _ _).mono ?_
    rintro e w1 ⟨rfl, hb⟩
    rw [h]
    have hs : Six w1 w.heap.size f := Six.below (Blk.six (Blk.new w _ _)) hb (by simp)
    have hbel : Below w.heap.size w w1 := Below.trans (by (repeat (first | with_reducible assumption | with_reducible exact Below.refl _ _ | with_reducible refine Below.setCell ?_ (by first | omega | (simp <;> omega)) _ | with_reducible refine Below.alloc ?_ (by first | omega | (simp <;> omega)) _ | with_reducible refine Below.drew ?_ | with_reducible refine Below.drewN ?_ _))) (hb.mono (by simp <;> omega))
    clear hb
    go_wp2_with fail
    refine (l01Index_any f _ hv).mono ?_
    rintro e w2 ⟨⟨n, k, ha, hk, he, rfl⟩, hb⟩
    replace hbel := hbel.trans (hb.mono hbel.size)
    have hi : Hid (IP f k (n - k)) := IP_good h ha hk he
    clear hb ha he
    go_wp2
    go_ret3
    exact ⟨⟨k, n - k, hi.out, rfl⟩, hbel⟩

end Go.Proofs.Ytkbfocoaobiijaa
