/- Contracts of the kernel of a map; the maps are valid where the theorems say so. -/
import Derived.Test.YtkbfocoaobiijaaC3
import Derived.Test.YtkbfocoaobiijaaSl
import Derived.Test.YtkbfocoaobiijaaS1
import Derived.Deep.QuietTactic
import Derived.BigQuiet
import Derived.IntWalk
namespace Go.Proofs.Ytkbfocoaobiijaa
open Go.RowKit
set_option maxRecDepth 100000

/-- the first point from s on that is led where i is led -/
def fe (f : M) (i : Nat) : Nat → Nat → Nat
  | 0, s => s
  | n + 1, s => if f.at s = f.at i then s else fe f i n (s + 1)
theorem fe_eq {f : M} {i k : Nat} (hki : k ≤ i) (he : f.at k = f.at i) : ∀ (n s : Nat), s + n = i → s ≤ k → (∀ j, s ≤ j → j < k → f.at j ≠ f.at i) → fe f i n s = k
  | 0, s, h1, h2, _ => by simp only [fe]; omega
  | n + 1, s, h1, h2, h3 => by
    by_cases h : s = k
    · subst h; simp [fe, he]
    · rw [fe, if_neg (h3 s (Nat.le_refl _) (by omega))]
      exact fe_eq hki he n (s + 1) (by omega) (by omega) fun j hj => h3 j (by omega)
theorem fe_le (f : M) (i : Nat) : ∀ (n s : Nat), s + n = i → fe f i n s ≤ i
  | 0, s, h => by simp only [fe]; omega
  | n + 1, s, h => by
    rw [fe]; split
    · omega
    · exact fe_le f i n (s + 1) (by omega)
/-- the numbers of the classes of the points below i, and the next number -/
def kn (f : M) : Nat → List Int × Int
  | 0 => ([], 0)
  | i + 1 => if fe f i i 0 < i then ((kn f i).1 ++ [gi (kn f i).1 (fe f i i 0)], (kn f i).2) else ((kn f i).1 ++ [(kn f i).2], (kn f i).2 + 1)
theorem kn_length (f : M) : ∀ i, (kn f i).1.length = i
  | 0 => rfl
  | i + 1 => by rw [kn]; split <;> simp [kn_length f i]
theorem gi_snoc (l : List Int) (x : Int) (j : Nat) (h : j ≤ l.length) : gi (l ++ [x]) j = if j < l.length then gi l j else x := by
  unfold gi
  by_cases hj : j < l.length
  · rw [if_pos hj]; simp [List.getD, List.getElem?_append_left hj]
  · rw [if_neg hj]
    obtain rfl : j = l.length := by omega
    simp [List.getD]
theorem kn_bd (f : M) : ∀ i, 0 ≤ (kn f i).2 ∧ (kn f i).2 ≤ i ∧ ∀ j, j < i → 0 ≤ gi (kn f i).1 j ∧ gi (kn f i).1 j < (kn f i).2
  | 0 => ⟨by simp [kn], by simp [kn], fun j hj => by omega⟩
  | i + 1 => by
    obtain ⟨h1, h2, h3⟩ := kn_bd f i
    have hl := kn_length f i
    rw [kn]
    split
    · rename_i hlt
      refine ⟨h1, by simp only []; omega, fun j hj => ?_⟩
      simp only []
      rw [gi_snoc _ _ _ (by omega)]
      split
      · exact h3 j (by omega)
      · exact h3 _ hlt
    · refine ⟨by simp only []; omega, by simp only []; omega, fun j hj => ?_⟩
      simp only []
      rw [gi_snoc _ _ _ (by omega)]
      split
      · have := h3 j (by omega); omega
      · omega
theorem kn_old {f : M} {i k : Nat} (hk : k < i) (he : f.at k = f.at i) (hn : ∀ j, j < k → f.at j ≠ f.at i) : kn f (i + 1) = ((kn f i).1 ++ [gi (kn f i).1 k], (kn f i).2) := by
  have : fe f i i 0 = k := fe_eq (by omega) he i 0 (by omega) (by omega) fun j _ => hn j
  rw [kn, this, if_pos hk]
theorem kn_new {f : M} {i : Nat} (hn : ∀ j, j < i → f.at j ≠ f.at i) : kn f (i + 1) = ((kn f i).1 ++ [(kn f i).2], (kn f i).2 + 1) := by
  have : fe f i i 0 = i := fe_eq (Nat.le_refl _) rfl i 0 (by omega) (by omega) fun j _ => hn j
  rw [kn, this, if_neg (by omega)]
def kfill (f : M) (n i : Nat) : List Int := (kn f i).1 ++ List.replicate (n - i) 0
theorem kfill_length {f : M} {n i : Nat} (h : i ≤ n) : (kfill f n i).length = n := by simp [kfill, kn_length]; omega
theorem kfill_zero (f : M) (n : Nat) : kfill f n 0 = List.replicate n 0 := by simp [kfill, kn]
theorem kfill_all (f : M) (n : Nat) : kfill f n n = (kn f n).1 := by simp [kfill]
theorem gi_kfill {f : M} {n i j : Nat} (h : j < i) : gi (kfill f n i) j = gi (kn f i).1 j := by
  unfold gi kfill
  simp [List.getD, List.getElem?_append_left (show j < (kn f i).1.length by rw [kn_length]; exact h)]
theorem kfill_set {f : M} {n i : Nat} {x : Int} (h : i < n) (hx : (kn f (i + 1)).1 = (kn f i).1 ++ [x]) : (kfill f n i).set i x = kfill f n (i + 1) := by
  have hl := kn_length f i
  unfold kfill
  rw [hx, List.set_append_right _ _ (by omega), hl, Nat.sub_self]
  obtain ⟨m, hm⟩ : ∃ m, n - i = m + 1 := ⟨n - i - 1, by omega⟩
  rw [hm, show n - (i + 1) = m by omega, List.replicate_succ]
  simp

theorem OwI.spotAt {e : TypeId} {w : World} {B g n c : Nat} {zs : List Int} (h : OwI e w B (.slice (some ⟨g, 0, none⟩) n c) zs) {k : Nat} (hk : k < zs.length) :
    w.cell? ⟨g, k, none⟩ = some (I (gi zs k)) ∧ w.frozen? ⟨g, k, none⟩ = false ∧ g < w.heap.size ∧ B ≤ g ∧ ∀ z, OwI e (w.setCell ⟨g, k, none⟩ (I z)) B (.slice (some ⟨g, 0, none⟩) n c) (zs.set k z) := by
  obtain ⟨g', c', hv, h1, h2, h3, h4, h5⟩ := h.spot hk
  injection hv with hv e2 e3
  injection hv with hv
  injection hv with hv _ _
  subst hv
  exact ⟨h3, h4, h2, h1, h5⟩

theorem same_any (f : M) (g : Nat) (i k : Nat) (w : World) (hs : Six w g f) (hi : i < 5) (hk : k < 5) :
    Calls Try.prog 67 #[.int .i64 i, .int .i64 k, .pointer (some ⟨g, 0, none⟩)] w fun e w' => e = .returned (.bool (decide (f.at i = f.at k))) ∧ Below w.heap.size w w' := by
  have key : ∀ j, j < 5 → w.cell? ⟨g, 1 + j, none⟩ = some (I (f.at j)) := five (P := fun j => w.cell? ⟨g, 1 + j, none⟩ = some (I (f.at j))) hs.2.1 hs.2.2.1 hs.2.2.2.1 hs.2.2.2.2.1 hs.2.2.2.2.2
  have c1 := key i hi
  have c2 := key k hk
  have i0 : (0 : Int) ≤ (i : Int) := by omega
  have i1 : (i : Int) < 5 := by omega
  have k0 : (0 : Int) ≤ (k : Int) := by omega
  have k1 : (k : Int) < 5 := by omega
  clear key
  by_cases he : f.at i = f.at k
  · have Hr : Hid (decide (f.at i = f.at k) = true) := decide_eq_true he
    have heb : (f.at i == f.at k) = true := by simp [he]
    clear he
    go_enter Try.func67, Try.ntmps67
    go_wp2_with fail
    go_quiet (fail)
    go_wp2
    go_ret
    exact ⟨ret_bool Hr.out.symm, (Below.refl _ _).drewN _⟩
  · have Hr : Hid (decide (f.at i = f.at k) = false) := decide_eq_false he
    have heb : (f.at i == f.at k) = false := by simp [he]
    clear he
    go_enter Try.func67, Try.ntmps67
    go_wp2_with fail
    go_quiet (fail)
    go_wp2
    go_ret
    exact ⟨ret_bool Hr.out.symm, (Below.refl _ _).drewN _⟩

theorem numbered_any (f : M) (g n : Nat) (w : World) (hs : Six w g f) (hn : n ≤ 5) :
    Calls Try.prog 66 #[.int .i64 n, .func (.func 67) #[] #[.pointer (some ⟨g, 0, none⟩)]] w fun e w' => ∃ v, e = .returned v ∧ OwI 2 w' w.heap.size v (kn f n).1 ∧ Below w.heap.size w w' := by
  obtain ⟨i, hi, hz0, hz1, hz2⟩ := info_parts infoI
  have hgl := hs.lt
  go_enter Try.func66, Try.ntmps66
  go_wp2_with (at_make; refine wpList_make_full _ rfl _ _ _ rfl w.heap.size 2 i (.int .i64 0) 1 Try.underlying34 hi hz0 hz1 .i64 .i64 _ _ n rfl rfl rfl rfl (by rw [hz2]; omega) (by unfold maxLen; omega) (Nat.le_refl _) ?_; intro w1 hown hgr)
  have ho := madeI hown
  rw [← kfill_zero f] at ho
  have hbel : Below w.heap.size w w1 := (Below.refl _ _).grown hgr (Nat.le_refl _) (fun k hk => by cases hk)
  have hs1 := hs.below hbel hgl
  clear hown hgr hs
  go_loopw [6, 12] (fun nx i wr => ∃ j : Nat, j ≤ n ∧ i = .int .i64 j ∧ nx = I (kn f j).2 ∧ OwI 2 wr w.heap.size (.slice (some ⟨w.heap.size, 0, none⟩) n n) (kfill f n j) ∧ Six wr g f ∧ Below w.heap.size w wr) (fun _ i _ => n - (intOf i).toNat)
  case atStart => exact ⟨0, by omega, rfl, rfl, ho, hs1, hbel⟩
  case round =>
    clear hs1 ho hbel
    obtain ⟨j, hj, rfl, rfl, ho, hs, hbel⟩ := hrel
    by_cases hlt : j < n
    · have hl := hbel.size
      have Hl := kn_length f j
      go_wp2_with fail
      go_loopw [8] (fun k wq => ∃ m : Nat, m ≤ j ∧ k = .int .i64 m ∧ Hid (∀ t, t < m → f.at t ≠ f.at j) ∧ Hid (Below wr.heap.size wr wq)) (fun k _ => j - (intOf k).toNat)
      case atStart => exact ⟨0, by omega, rfl, fun t ht => absurd ht (by omega), Below.refl _ _⟩
      case round =>
        obtain ⟨m, hm, rfl, hg, Hb⟩ := hrel
        have hsq := hs.below Hb.out hs.lt
        have hoq := ho.below Hb.out (Nat.le_refl _)
        have hbq := hbel.trans (Hb.out.mono hl)
        by_cases hmj : m < j
        · by_cases he : f.at m = f.at j
          · have Hk : Hid (kn f (j + 1) = ((kn f j).1 ++ [gi (kn f j).1 m], (kn f j).2)) := kn_old hmj he hg.out
            go_wp2_with fail
            refine (same_any f g m j _ hsq (by omega) (by omega)).mono ?_
            rintro e w2 ⟨rfl, hb⟩
            rw [decide_eq_true he]
            replace hsq := hsq.below hb hsq.lt
            replace hoq := hoq.below hb (Nat.le_refl _)
            replace hbq := hbq.trans (hb.mono hbq.size)
            clear hb he
            obtain ⟨c1, _⟩ := hoq.spotAt (k := m) (by rw [kfill_length hj]; omega)
            obtain ⟨c2, z2, hg2, _, hst2⟩ := hoq.spotAt (k := j) (by rw [kfill_length hj]; omega)
            have hst3 := hst2 (gi (kn f j).1 m)
            rw [kfill_set hlt (by rw [Hk.out])] at hst3
            rw [gi_kfill hmj] at c1
            have Hst := Lib.hid hst3
            have hgw : ¬ g = w.heap.size := by omega
            clear hst2 hst3
            go_wp2
            go_roundw
            case rel => exact ⟨j + 1, by omega, by go_num, by rw [Hk.out], Hst.out, hsq.far hgw _, hbq.setCell (Nat.le_refl _) _⟩
            case measure => simp [intOf]; omega
          · have Hg : Hid (∀ t, t < m + 1 → f.at t ≠ f.at j) := by
              intro t ht
              by_cases e : t = m
              · subst e; exact he
              · exact hg.out t (by omega)
            go_wp2_with fail
            refine (same_any f g m j _ hsq (by omega) (by omega)).mono ?_
            rintro e w2 ⟨rfl, hb⟩
            rw [decide_eq_false he]
            have Hb2 := Lib.hid (Hb.out.trans (hb.mono Hb.out.size))
            clear hb he hsq hoq hbq
            go_wp2
            go_roundw
            case rel => exact ⟨m + 1, by omega, by go_num, Hg.out, Hb2⟩
            case measure => simp [intOf]; omega
        · have hmj2 : m = j := by omega
          subst hmj2
          have Hk : Hid (kn f (m + 1) = ((kn f m).1 ++ [(kn f m).2], (kn f m).2 + 1)) := kn_new hg.out
          obtain ⟨b1, b2, _⟩ := kn_bd f m
          have hwr : IntKind.i64.wrap ((kn f m).2 + 1) = (kn f m).2 + 1 := IntWalk.i64_in _ ⟨by omega, by omega⟩
          obtain ⟨c2, z2, hg2, _, hst2⟩ := hoq.spotAt (k := m) (by rw [kfill_length hj]; omega)
          have hst3 := hst2 (kn f m).2
          rw [kfill_set hlt (by rw [Hk.out])] at hst3
          have Hst := Lib.hid hst3
          have hgw : ¬ g = w.heap.size := by omega
          clear hst2 hst3
          go_wp2
          go_roundw
          case rel => exact ⟨m + 1, by omega, by go_num, by rw [Hk.out], Hst.out, hsq.far hgw _, hbq.setCell (Nat.le_refl _) _⟩
          case measure => simp [intOf]; omega
    · obtain rfl : j = n := by omega
      rw [kfill_all] at ho
      go_wp2
      go_ret
      exact ⟨_, rfl, ho, hbel⟩

/-- the number of i, as far as the points from s on tell -/
def ownN (f : M) (i s : Nat) : Int := if fe f i (i - s) s < i then gi (kn f i).1 (fe f i (i - s) s) else (kn f i).2
theorem own_last (f : M) (i : Nat) : ownN f i i = (kn f i).2 := by simp [ownN, fe]
theorem own_hit {f : M} {i s : Nat} (hs : s < i) (he : f.at s = f.at i) : ownN f i s = gi (kn f i).1 s := by
  obtain ⟨n, hn⟩ : ∃ n, i - s = n + 1 := ⟨i - s - 1, by omega⟩
  rw [ownN, hn, fe, if_pos he, if_pos hs]
theorem own_miss {f : M} {i s : Nat} (hs : s < i) (he : ¬ f.at s = f.at i) : ownN f i s = ownN f i (s + 1) := by
  obtain ⟨n, hn⟩ : ∃ n, i - s = n + 1 := ⟨i - s - 1, by omega⟩
  rw [ownN, ownN, hn, fe, if_neg he, show i - (s + 1) = n by omega]
theorem kn_own (f : M) (i : Nat) : kn f (i + 1) = ((kn f i).1 ++ [ownN f i 0], if ownN f i 0 = (kn f i).2 then (kn f i).2 + 1 else (kn f i).2) := by
  rw [kn, ownN, Nat.sub_zero]
  by_cases h : fe f i i 0 < i
  · rw [if_pos h, if_pos h]
    have := (kn_bd f i).2.2 _ h
    rw [if_neg (by omega)]
  · rw [if_neg h, if_neg h, if_pos rfl]
theorem own_bd (f : M) (i : Nat) : ∀ n s, s + n = i → 0 ≤ ownN f i s ∧ ownN f i s ≤ i := by
  intro n s h
  obtain ⟨h1, h2, h3⟩ := kn_bd f i
  rw [ownN]; split
  · rename_i hlt; have := h3 _ hlt; omega
  · omega

theorem l01Kernel_any (f : M) (w : World) (hf : Valid f) :
    Calls Try.prog 68 #[.agg (mc f)] w fun e w' => ∃ v, e = .returned v ∧ OwI 2 w' w.heap.size v (kn f f.p.toNat).1 ∧ Below w.heap.size w w' := by
  have hp1 := hf.p1
  have hp5 := hf.p5
  go_enter Try.func68, Try.ntmps68
  go_wp2
  go_loopw [3, 4, 5] (fun v nx i wr => ∃ k : Nat, (k : Int) ≤ f.p ∧ i = .int .i64 k ∧ nx = I (kn f k).2 ∧ OwI 2 wr (w.heap.size + 1) v (kn f k).1 ∧ Blk wr w.heap.size 26 (mc f) ∧ Below w.heap.size w wr) (fun _ _ i _ => 5 - (intOf i).toNat)
  case atStart => exact ⟨0, by omega, rfl, rfl, OwI.made' (by simp) (Nat.le_refl _), (Blk.new _ _ _).alloc _, by (repeat (first | with_reducible assumption | with_reducible exact Below.refl _ _ | with_reducible refine Below.setCell ?_ (by first | omega | (simp <;> omega)) _ | with_reducible refine Below.alloc ?_ (by first | omega | (simp <;> omega)) _ | with_reducible refine Below.drew ?_ | with_reducible refine Below.drewN ?_ _))⟩
  case round =>
    obtain ⟨j, hj, rfl, rfl, ho, hB, hbel⟩ := hrel
    obtain ⟨A, c, hv, hr⟩ := ho.form
    rw [kn_length] at hv
    subst hv
    have Hr := Lib.hid hr
    clear hr
    have c0 : wr.cell? ⟨w.heap.size, 0, none⟩ = some (I f.p) := hB.cell 0
    by_cases hlt : (j : Int) < f.p
    · have hj5 : j < 5 := by omega
      have hwj : IntKind.i64.wrap ((j : Int) - 1) = (j : Int) - 1 := IntWalk.i64_in _ ⟨by omega, by omega⟩
      obtain ⟨b1, b2, _⟩ := kn_bd f j
      have Hl := kn_length f j
      go_wp2_with fail
      go_loopw [6, 7] (fun o k wq => ∃ m : Nat, m ≤ j ∧ k = I ((m : Int) - 1) ∧ o = I (ownN f j m) ∧ Hid (∃ nq, wq = wr.drewN nq)) (fun _ k _ => (intOf k + 1).toNat)
      case atStart => exact ⟨j, Nat.le_refl _, rfl, by rw [own_last], ⟨0, rfl⟩⟩
      case round =>
        obtain ⟨m, hm, rfl, rfl, Hq⟩ := hrel
        obtain ⟨nq, rfl⟩ := Hq.out
        have ho2 := ho.drewN nq
        have hB2 := hB.drewN nq
        have hbel2 := hbel.drewN nq
        have hr2 : RdI (wr.drewN nq) wr.heap.size A (kn f j).1 := Hr.out
        have Hr2 := Lib.hid hr2
        clear hr2
        have hsz : wr.heap.size = (wr.drewN nq).heap.size := rfl
        generalize wr.drewN nq = w9 at Hq ho2 hB2 hbel2 Hr2 hsz ⊢
        by_cases hm0 : 0 < m
        · have c1 := hB2.at_ (k := m - 1) (by omega)
          have c2 := hB2.at_ (k := j) hj5
          have e1 : (m : Int) - 1 = ((m - 1 : Nat) : Int) := by omega
          rw [e1]
          have i0 : (0 : Int) ≤ ((m - 1 : Nat) : Int) := by omega
          have i1 : ((m - 1 : Nat) : Int) < 5 := by omega
          have i2 : (0 : Int) ≤ (j : Int) := by omega
          have i3 : (j : Int) < 5 := by omega
          have hwm : IntKind.i64.wrap (((m - 1 : Nat) : Int) - 1) = ((m - 1 : Nat) : Int) - 1 := IntWalk.i64_in _ ⟨by omega, by omega⟩
          by_cases he : f.at (m - 1) = f.at j
          · have heb : (f.at (m - 1) == f.at j) = true := by simp [he]
            have Ho : Hid (ownN f j (m - 1) = gi (kn f j).1 (m - 1)) := own_hit (by omega) he
            clear he
            obtain ⟨b, off, rfl, hbb, c3⟩ := RdI.at_ Hr2.out (k := m - 1) (by rw [Hl]; omega)
            have i4 : ((m - 1 : Nat) : Int) < (j : Int) := by omega
            go_wp2_with fail
            go_quiet (fail)
            go_wp2
            go_roundw
            case rel => exact ⟨m - 1, by omega, rfl, by rw [Ho.out], by obtain ⟨z, hz⟩ := Hq.out; exact ⟨z + nq, by rw [hz, World.drewN_drewN]⟩⟩
            case measure => simp [intOf] <;> omega
          · have heb : (f.at (m - 1) == f.at j) = false := by simp [he]
            have Ho : Hid (ownN f j (m - 1) = ownN f j m) := by
              have := own_miss (f := f) (i := j) (s := m - 1) (by omega) he
              rwa [show m - 1 + 1 = m by omega] at this
            clear he
            go_wp2_with fail
            go_quiet (fail)
            go_wp2
            go_roundw
            case rel => exact ⟨m - 1, by omega, rfl, by rw [Ho.out], by obtain ⟨z, hz⟩ := Hq.out; exact ⟨z + nq, by rw [hz, World.drewN_drewN]⟩⟩
            case measure => simp [intOf] <;> omega
        · obtain rfl : m = 0 := by omega
          have Hk := Lib.hid (kn_own f j)
          have hwn : IntKind.i64.wrap ((kn f j).2 + 1) = (kn f j).2 + 1 := IntWalk.i64_in _ ⟨by omega, by omega⟩
          have hsz2 := hbel2.size
          by_cases he : ownN f j 0 = (kn f j).2
          · have heb : (ownN f j 0 == (kn f j).2) = true := by simp [he]
            have He := Lib.hid he
            clear he
            go_wp2_with (at_builtin; refine wpList_pushI rfl (.tmp 40) (.tmp 42) rfl (w.heap.size + 1) (.slice A j c) (kn f j).1 rfl (ho2.alloc _) w9.heap.size 1 (ownN f j 0) rfl ((Blk.new _ _ _).cell 0) (by rw [Hl]; omega) (by have := hB2.lt; simp; omega) (w9.heap.size + 1) (by simp) ?_; intro g' cap w4 ho' hgr hg' hlt')
            go_roundw
            case rel => exact ⟨j + 1, by omega, by go_num, by rw [Hk.out, if_pos He.out], by rw [Hk.out]; simpa [Hl] using ho', (hB2.alloc _).grown hgr (ho2.ne (by omega)), (ho2.alloc _).bel (hbel2.alloc hsz2 _) hgr (by omega) (by simp; omega)⟩
            case measure => simp [intOf]; omega
          · have heb : (ownN f j 0 == (kn f j).2) = false := by simp [he]
            have He := Lib.hid he
            clear he
            go_wp2_with (at_builtin; refine wpList_pushI rfl (.tmp 40) (.tmp 42) rfl (w.heap.size + 1) (.slice A j c) (kn f j).1 rfl (ho2.alloc _) w9.heap.size 1 (ownN f j 0) rfl ((Blk.new _ _ _).cell 0) (by rw [Hl]; omega) (by have := hB2.lt; simp; omega) (w9.heap.size + 1) (by simp) ?_; intro g' cap w4 ho' hgr hg' hlt')
            go_roundw
            case rel => exact ⟨j + 1, by omega, by go_num, by rw [Hk.out, if_neg He.out], by rw [Hk.out]; simpa [Hl] using ho', (hB2.alloc _).grown hgr (ho2.ne (by omega)), (ho2.alloc _).bel (hbel2.alloc hsz2 _) hgr (by omega) (by simp; omega)⟩
            case measure => simp [intOf]; omega
    · obtain rfl : j = f.p.toNat := by omega
      go_wp2
      go_ret
      exact ⟨_, rfl, ho.mono (by omega), hbel⟩

def kerR (f : M) : List Int := if isMap f then (kn f f.p.toNat).1 else []
theorem kerR_bad {f : M} (h : isMap f = false) : kerR f = [] := by simp [kerR, h]
theorem kerR_good {f : M} (h : isMap f = true) : kerR f = (kn f f.p.toNat).1 := by simp [kerR, h]
theorem kerR_len (f : M) : (kerR f).length < 1073741824 := by
  cases h : isMap f
  · rw [kerR_bad h]; simp
  · rw [kerR_good h, kn_length]; have := ((isMap_iff f).1 h).p5; omega

theorem ImplKernel_any (f : M) (w : World) :
    Calls Try.prog 27 #[.agg (mc f)] w fun e w' => ∃ v, e = .returned (.tuple #[v, I (cInv (isMap f))]) ∧ OwI 2 w' w.heap.size v (kerR f) ∧ Below w.heap.size w w' := by
  cases h : isMap f
  · have Hr := Lib.hid (kerR_bad h)
    go_enter Try.func27, Try.ntmps27
    go_wp2_with fail
    refine (isMap_any _ _).mono ?_
    rintro e w1 ⟨rfl, hb⟩
    rw [h]
    have hbel : Below w.heap.size w w1 := Below.trans (by (repeat (first | with_reducible assumption | with_reducible exact Below.refl _ _ | with_reducible refine Below.setCell ?_ (by first | omega | (simp <;> omega)) _ | with_reducible refine Below.alloc ?_ (by first | omega | (simp <;> omega)) _ | with_reducible refine Below.drew ?_ | with_reducible refine Below.drewN ?_ _))) (hb.mono (by simp <;> omega))
    clear hb
    go_wp2
    go_ret2
    exact ⟨_, rfl, by rw [Hr.out]; exact OwI.nil_, hbel⟩
  · have Hr := Lib.hid (kerR_good h)
    have hv := (isMap_iff f).1 h
    have hp1 := hv.p1
    have hp5 := hv.p5
    go_enter Try.func27, Try.ntmps27
    go_wp2_with fail
    refine (isMap_any _ _).mono ?_
    rintro e w1 ⟨rfl, hb⟩
    rw [h]
    have hs : Six w1 w.heap.size f := Six.below (Blk.six (Blk.new w _ _)) hb (by simp)
    have hbel : Below w.heap.size w w1 := Below.trans (by (repeat (first | with_reducible assumption | with_reducible exact Below.refl _ _ | with_reducible refine Below.setCell ?_ (by first | omega | (simp <;> omega)) _ | with_reducible refine Below.alloc ?_ (by first | omega | (simp <;> omega)) _ | with_reducible refine Below.drew ?_ | with_reducible refine Below.drewN ?_ _))) (hb.mono (by simp <;> omega))
    have hfp : f.p = (f.p.toNat : Int) := by omega
    have hn := numbered_any f w.heap.size f.p.toNat w1 hs (by omega)
    rw [← hfp] at hn
    have Hn := Lib.hid hn
    clear hb hn hfp
    go_wp2_with fail
    refine Hn.out.mono ?_
    rintro e w2 ⟨v, rfl, ho, hb⟩
    replace ho := ho.mono hbel.size
    replace hbel := hbel.trans (hb.mono hbel.size)
    clear hb Hn
    have Ho := Lib.hid ho
    clear ho
    go_wp2
    go_ret2
    exact ⟨_, rfl, by rw [Hr.out]; exact Ho.out, hbel⟩

theorem SpecKernel_any (f : M) (w : World) :
    Calls Try.prog 28 #[.agg (mc f)] w fun e w' => ∃ v, e = .returned (.tuple #[v, I (cInv (isMap f))]) ∧ OwI 2 w' w.heap.size v (kerR f) ∧ Below w.heap.size w w' := by
  cases h : isMap f
  · have Hr := Lib.hid (kerR_bad h)
    go_enter Try.func28, Try.ntmps28
    go_wp2_with fail
    refine (l01Is_any _ _).mono ?_
    rintro e w1 ⟨rfl, hb⟩
    rw [h]
    have hbel : Below w.heap.size w w1 := Below.trans (by (repeat (first | with_reducible assumption | with_reducible exact Below.refl _ _ | with_reducible refine Below.setCell ?_ (by first | omega | (simp <;> omega)) _ | with_reducible refine Below.alloc ?_ (by first | omega | (simp <;> omega)) _ | with_reducible refine Below.drew ?_ | with_reducible refine Below.drewN ?_ _))) (hb.mono (by simp <;> omega))
    clear hb
    go_wp2
    go_ret2
    exact ⟨_, rfl, by rw [Hr.out]; exact OwI.nil_, hbel⟩
  · have Hr := Lib.hid (kerR_good h)
    have hv := (isMap_iff f).1 h
    go_enter Try.func28, Try.ntmps28
    go_wp2_with fail
    refine (l01Is_any _ _).mono ?_
    rintro e w1 ⟨rfl, hb⟩
    rw [h]
    have hs : Six w1 w.heap.size f := Six.below (Blk.six (Blk.new w _ _)) hb (by simp)
    have hbel : Below w.heap.size w w1 := Below.trans (by (repeat (first | with_reducible assumption | with_reducible exact Below.refl _ _ | with_reducible refine Below.setCell ?_ (by first | omega | (simp <;> omega)) _ | with_reducible refine Below.alloc ?_ (by first | omega | (simp <;> omega)) _ | with_reducible refine Below.drew ?_ | with_reducible refine Below.drewN ?_ _))) (hb.mono (by simp <;> omega))
    clear hb
    go_wp2_with fail
    refine (l01Kernel_any f _ hv).mono ?_
    rintro e w2 ⟨v, rfl, ho, hb⟩
    replace ho := ho.mono hbel.size
    replace hbel := hbel.trans (hb.mono hbel.size)
    clear hb
    have Ho := Lib.hid ho
    clear ho
    go_wp2
    go_ret2
    exact ⟨_, rfl, by rw [Hr.out]; exact Ho.out, hbel⟩

end Go.Proofs.Ytkbfocoaobiijaa
