/- Contracts of the points that are kept, for each test; the maps are valid where the theorems say so. -/
import Derived.Test.YtkbfocoaobiijaaD1
import Derived.Deep.QuietTactic
import Derived.BigQuiet
namespace Go.Proofs.Ytkbfocoaobiijaa
open Go.RowKit
set_option maxRecDepth 100000

theorem dropsFixed (h : Nat) (q : Nat) (w0 w1 : World) (n : Nat) (pr : Int → Bool) (hcell : w1.cell? ⟨q, 0, none⟩ = some (.func (.func 52) #[] #[.pointer (some ⟨h, 0, none⟩)])) (hq : w0.heap.size ≤ q) (h01 : Below w0.heap.size w0 w1)
    (hIs : Hid (∀ w' z, Below w0.heap.size w0 w' → z ∈ ups n → Calls Try.prog 52 #[I z, .pointer (some ⟨h, 0, none⟩)] w' fun e w'' => e = .returned (.bool (pr z)) ∧ Below w'.heap.size w' w'')) : Drops q (q + 1) w1 (ups n) (fun z => !pr z) := by
  intro w' z hb hz
  have c1 := (hb.cell (p := ⟨q, 0, none⟩) (by simp)).trans hcell
  have Hc := Lib.hid (hIs.out w' z (h01.trans (hb.mono (by omega))) hz)
  clear hb hIs hcell h01
  go_enter Try.func76, Try.ntmps76
  go_wp2_with fail
  refine Hc.out.mono ?_
  rintro e w2 ⟨rfl, hb2⟩
  go_wp2
  go_ret
  exact ⟨rfl, hb2⟩

theorem whereFixed (f : M) (h : Nat) (w : World) (pr : Int → Bool) (hv : Valid f) (hIs : Hid (∀ w' z, Below w.heap.size w w' → z ∈ ups f.p.toNat → Calls Try.prog 52 #[I z, .pointer (some ⟨h, 0, none⟩)] w' fun e w'' => e = .returned (.bool (pr z)) ∧ Below w'.heap.size w' w'')) :
    Calls Try.prog 48 #[.agg (mc f), .func (.func 52) #[] #[.pointer (some ⟨h, 0, none⟩)]] w fun e w' => ∃ v, e = .returned v ∧ OwI 2 w' w.heap.size v (keepF (fun z => !pr z) (ups f.p.toNat)) ∧ Below w.heap.size w w' := by
  have hp1 := hv.p1
  have hp5 := hv.p5
  obtain ⟨n, hn⟩ : ∃ n : Nat, n = f.p.toNat := ⟨_, rfl⟩
  have hfp : f.p = (n : Int) := by omega
  rw [← hn] at hIs ⊢
  have hpt := fun w' => points_any n w' (by omega)
  rw [← hfp] at hpt
  have Hpt := Lib.hid hpt
  have hn1 : 1 ≤ n := by omega
  have hn5 : n ≤ 5 := by omega
  clear hpt hfp hn
  go_enter Try.func48, Try.ntmps48
  go_wp2_with fail
  refine (Hpt.out _).mono ?_
  rintro e w1 ⟨v, rfl, ho, hb⟩
  have hB1 : w1.cell? ⟨w.heap.size + 1, 0, none⟩ = some (.func (.func 52) #[] #[.pointer (some ⟨h, 0, none⟩)]) := (hb.cell (p := ⟨w.heap.size + 1, 0, none⟩) (by simp)).trans ((Blk.new' _ _ _ (by simp)).cell 0)
  have hbel : Below w.heap.size w w1 := Below.trans (by (repeat (first | with_reducible assumption | with_reducible exact Below.refl _ _ | with_reducible refine Below.setCell ?_ (by first | omega | (simp <;> omega)) _ | with_reducible refine Below.alloc ?_ (by first | omega | (simp <;> omega)) _ | with_reducible refine Below.drew ?_ | with_reducible refine Below.drewN ?_ _))) (hb.mono (by simp <;> omega))
  replace ho := ho.mono (B' := w.heap.size + 1 + 1) (by simp)
  have hsz : w.heap.size + 1 + 1 ≤ w1.heap.size := by have := hb.size; simpa using this
  have hd := dropsFixed h (w.heap.size + 1) w w1 n pr hB1 (by omega) hbel hIs
  obtain ⟨g, c, hv', _, _⟩ := World.ownsRow.form ho (by rw [ups_length]; omega)
  rw [ups_length] at hv'
  subst hv'
  have Hd := Lib.hid hd
  clear hb hB1 hd hIs
  go_wp2_with fail
  refine (deleteF_any g n c (w.heap.size + 1) (w.heap.size + 1 + 1) (ups n) (fun z => !pr z) w1 w1 ho (by omega) Hd.out (Below.refl _ _) hsz).mono ?_
  rintro e w2 ⟨v, rfl, ho2, hb2⟩
  have Ho := Lib.hid (ho2.mono (B' := w.heap.size) (by omega))
  replace hbel := hbel.trans (hb2.mono (by omega))
  clear ho ho2 hb2
  go_wp2
  go_ret
  exact ⟨_, rfl, Ho.out, hbel⟩

/-- the points below n that are such -/
def sel (q : Int → Bool) (n : Nat) : List Int := (ups n).filter q

theorem sel_succ (q : Int → Bool) (n : Nat) : sel q (n + 1) = sel q n ++ (if q n then [(n : Int)] else []) := by
  rw [sel, ups_succ, List.filter_append, sel]
  congr 1
  cases h : q n <;> simp [h]
theorem keep_sel (q : Int → Bool) (n : Nat) : keepF (fun z => !q z) (ups n) = sel q n := by simp [keepF, sel]
theorem sel_length (q : Int → Bool) (n : Nat) : (sel q n).length ≤ n := by
  have := List.length_filter_le q (ups n)
  rw [ups_length] at this
  exact this
theorem ups_mem {n : Nat} {z : Int} (h : z ∈ ups n) : ∃ k : Nat, k < n ∧ z = k := by
  simp [ups] at h
  obtain ⟨k, hk, rfl⟩ := h
  exact ⟨k, hk, rfl⟩
theorem six_at {w : World} {g : Nat} {f : M} (hs : Six w g f) : ∀ j, j < 5 → w.cell? ⟨g, 1 + j, none⟩ = some (I (f.at j)) :=
  five (P := fun j => w.cell? ⟨g, 1 + j, none⟩ = some (I (f.at j))) hs.2.1 hs.2.2.1 hs.2.2.2.1 hs.2.2.2.2.1 hs.2.2.2.2.2

def isFixed (f : M) (z : Int) : Bool := decide (f.at z.toNat = z)

theorem fixed_any (f : M) (g k : Nat) (w : World) (hs : Six w g f) (hk : k < 5) :
    Calls Try.prog 52 #[.int .i64 k, .pointer (some ⟨g, 0, none⟩)] w fun e w' => e = .returned (.bool (isFixed f k)) ∧ Below w.heap.size w w' := by
  have c1 := six_at hs k hk
  by_cases he : f.at k = k
  · have Hr : Hid (isFixed f k = true) := by show _ = _; simp [isFixed, he]
    have heb : (f.at k == (k : Int)) = true := by simpa using he
    clear he
    go_enter Try.func52, Try.ntmps52
    go_wp2
    go_ret
    exact ⟨ret_bool Hr.out.symm, Below.refl _ _⟩
  · have Hr : Hid (isFixed f k = false) := by show _ = _; simp [isFixed, he]
    have heb : (f.at k == (k : Int)) = false := by simpa using he
    clear he
    go_enter Try.func52, Try.ntmps52
    go_wp2
    go_ret
    exact ⟨ret_bool Hr.out.symm, Below.refl _ _⟩

def fixR (f : M) : List Int := if isMap f then sel (isFixed f) f.p.toNat else []

theorem fixR_bad {f : M} (h : isMap f = false) : fixR f = [] := by simp [fixR, h]
theorem fixR_good {f : M} (h : isMap f = true) : fixR f = sel (isFixed f) f.p.toNat := by simp [fixR, h]
theorem fixR_len (f : M) : (fixR f).length < 1073741824 := by
  cases h : isMap f
  · rw [fixR_bad h]; simp
  · rw [fixR_good h]; have := ((isMap_iff f).1 h).p5; have := sel_length (isFixed f) f.p.toNat; omega

theorem ImplFixed_any (f : M) (w : World) :
    Calls Try.prog 17 #[.agg (mc f)] w fun e w' => ∃ v, e = .returned (.tuple #[v, I (cInv (isMap f))]) ∧ OwI 2 w' w.heap.size v (fixR f) ∧ Below w.heap.size w w' := by
  cases h : isMap f
  · have Hr := Lib.hid (fixR_bad h)
    go_enter Try.func17, Try.ntmps17
    go_wp2_with fail
    refine (isMap_any _ _).mono ?_
    rintro e w1 ⟨rfl, hb⟩
    rw [h]
    have hbel : Below w.heap.size w w1 := Below.trans (by (repeat (first | with_reducible assumption | with_reducible exact Below.refl _ _ | with_reducible refine Below.setCell ?_ (by first | omega | (simp <;> omega)) _ | with_reducible refine Below.alloc ?_ (by first | omega | (simp <;> omega)) _ | with_reducible refine Below.drew ?_ | with_reducible refine Below.drewN ?_ _))) (hb.mono (by simp <;> omega))
    clear hb
    go_wp2
    go_ret2
    exact ⟨_, rfl, by rw [Hr.out]; exact OwI.nil_, hbel⟩
  · have Hr := Lib.hid (fixR_good h)
    have hv := (isMap_iff f).1 h
    have hp1 := hv.p1
    have hp5 := hv.p5
    go_enter Try.func17, Try.ntmps17
    go_wp2_with fail
    refine (isMap_any _ _).mono ?_
    rintro e w1 ⟨rfl, hb⟩
    rw [h]
    have hs : Six w1 w.heap.size f := Six.below (Blk.six (Blk.new w _ _)) hb (by simp)
    have hbel : Below w.heap.size w w1 := Below.trans (by (repeat (first | with_reducible assumption | with_reducible exact Below.refl _ _ | with_reducible refine Below.setCell ?_ (by first | omega | (simp <;> omega)) _ | with_reducible refine Below.alloc ?_ (by first | omega | (simp <;> omega)) _ | with_reducible refine Below.drew ?_ | with_reducible refine Below.drewN ?_ _))) (hb.mono (by simp <;> omega))
    have hwh := whereFixed f w.heap.size w1 (isFixed f) hv (by
      intro w' z hb' hz
      obtain ⟨k, hk, rfl⟩ := ups_mem hz
      exact fixed_any f w.heap.size k w' (hs.below hb' hs.lt) (by omega))
    have Hwh := Lib.hid hwh
    clear hb hwh
    go_wp2_with fail
    refine Hwh.out.mono ?_
    rintro e w2 ⟨v, rfl, ho, hb⟩
    rw [keep_sel] at ho
    have Ho := Lib.hid (ho.mono hbel.size)
    replace hbel := hbel.trans (hb.mono hbel.size)
    clear hb Hwh ho
    go_wp2
    go_ret2
    exact ⟨_, rfl, by rw [Hr.out]; exact Ho.out, hbel⟩

theorem SpecFixed_any (f : M) (w : World) :
    Calls Try.prog 31 #[.agg (mc f)] w fun e w' => ∃ v, e = .returned (.tuple #[v, I (cInv (isMap f))]) ∧ OwI 2 w' w.heap.size v (fixR f) ∧ Below w.heap.size w w' := by
  cases h : isMap f
  · have Hr := Lib.hid (fixR_bad h)
    go_enter Try.func31, Try.ntmps31
    go_wp2_with fail
    refine (l01Is_any _ _).mono ?_
    rintro e w1 ⟨rfl, hb⟩
    rw [h]
    have hbel : Below w.heap.size w w1 := Below.trans (by (repeat (first | with_reducible assumption | with_reducible exact Below.refl _ _ | with_reducible refine Below.setCell ?_ (by first | omega | (simp <;> omega)) _ | with_reducible refine Below.alloc ?_ (by first | omega | (simp <;> omega)) _ | with_reducible refine Below.drew ?_ | with_reducible refine Below.drewN ?_ _))) (hb.mono (by simp <;> omega))
    clear hb
    go_wp2
    go_ret2
    exact ⟨_, rfl, by rw [Hr.out]; exact OwI.nil_, hbel⟩
  · have Hr := Lib.hid (fixR_good h)
    have hv := (isMap_iff f).1 h
    have hp1 := hv.p1
    have hp5 := hv.p5
    go_enter Try.func31, Try.ntmps31
    go_wp2_with fail
    refine (l01Is_any _ _).mono ?_
    rintro e w1 ⟨rfl, hb⟩
    rw [h]
    have hs : Six w1 w.heap.size f := Six.below (Blk.six (Blk.new w _ _)) hb (by simp)
    have hbel : Below w.heap.size w w1 := Below.trans (by (repeat (first | with_reducible assumption | with_reducible exact Below.refl _ _ | with_reducible refine Below.setCell ?_ (by first | omega | (simp <;> omega)) _ | with_reducible refine Below.alloc ?_ (by first | omega | (simp <;> omega)) _ | with_reducible refine Below.drew ?_ | with_reducible refine Below.drewN ?_ _))) (hb.mono (by simp <;> omega))
    have hlt1 := hs.lt
    clear hb
    go_wp2_with fail
    go_loopw [4, 5] (fun v i wr => ∃ k : Nat, (k : Int) ≤ f.p ∧ i = .int .i64 k ∧ OwI 2 wr (w.heap.size + 1) v (sel (isFixed f) k) ∧ Six wr w.heap.size f ∧ Below w.heap.size w wr) (fun _ i _ => 5 - (intOf i).toNat)
    case atStart => exact ⟨0, by omega, rfl, OwI.mono (B := w1.heap.size) (OwI.made (Nat.le_refl _)) (by omega), hs.alloc _, hbel.alloc hbel.size _⟩
    case round =>
      clear hs hbel
      obtain ⟨k, hk, rfl, ho, hs, hbel⟩ := hrel
      obtain ⟨A, c, hv', _⟩ := ho.form
      obtain ⟨m, hm⟩ : ∃ m, m = (sel (isFixed f) k).length := ⟨_, rfl⟩
      rw [← hm] at hv'
      subst hv'
      have Hm := Lib.hid hm
      have hm5 : m ≤ k := by rw [hm]; exact sel_length _ _
      have hsz := hbel.size
      have hsl := hs.lt
      clear hm
      by_cases hlt : (k : Int) < f.p
      · have c1 := six_at hs k (by omega)
        have hss := sel_succ (isFixed f) k
        by_cases he : f.at k = k
        · have heb : (f.at k == (k : Int)) = true := by simpa using he
          have hq : isFixed f k = true := by simp [isFixed, he]
          rw [hq] at hss
          have Hss := Lib.hid hss
          clear he hss hq
          go_wp2_with (at_builtin; refine wpList_pushI rfl (.tmp 22) (.tmp 24) rfl (w.heap.size + 1) (.slice A m c) (sel (isFixed f) k) rfl (ho.alloc _) wr.heap.size 1 k rfl ((Blk.new _ _ _).cell 0) (by rw [← Hm.out]; omega) (by simp; omega) (wr.heap.size + 1) (by simp) ?_; intro g' cap w4 ho' hgr hg' hlt')
          go_roundw
          case rel => exact ⟨k + 1, by omega, by go_num, by rw [Hss.out]; simpa [Hm.out] using ho', (hs.alloc _).grown hgr (ho.ne (by omega)), (ho.alloc _).bel (hbel.alloc hsz _) hgr (by omega) (by simp; omega)⟩
          case measure => simp [intOf]; omega
        · have heb : (f.at k == (k : Int)) = false := by simpa using he
          have hq : isFixed f k = false := by simp [isFixed, he]
          rw [hq] at hss
          have Hss : Hid (sel (isFixed f) (k + 1) = sel (isFixed f) k) := by show _ = _; rw [hss]; simp
          clear he hss hq
          go_wp2
          go_roundw
          case rel => exact ⟨k + 1, by omega, by go_num, by rw [Hss.out]; exact ho, hs, hbel⟩
          case measure => simp [intOf]; omega
      · obtain rfl : k = f.p.toNat := by omega
        have Ho := Lib.hid (ho.mono (B' := w.heap.size) (by omega))
        clear ho
        go_wp2
        go_ret2
        exact ⟨_, rfl, by rw [Hr.out]; exact Ho.out, hbel⟩

end Go.Proofs.Ytkbfocoaobiijaa
