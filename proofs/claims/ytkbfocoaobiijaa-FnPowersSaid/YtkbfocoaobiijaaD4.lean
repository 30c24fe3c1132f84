/- Contracts of the cyclic points; the maps are valid where the theorems say so. -/
import Derived.Test.YtkbfocoaobiijaaD3
namespace Go.Proofs.Ytkbfocoaobiijaa
open Go.RowKit
set_option maxRecDepth 100000

theorem dropsCyclic (h : M) (q : Nat) (w0 w1 : World) (n : Nat) (pr : Int → Bool) (hcell : w1.cell? ⟨q, 0, none⟩ = some (.func (.func 49) #[.agg (mc h)] #[])) (hq : w0.heap.size ≤ q) (h01 : Below w0.heap.size w0 w1)
    (hIs : Hid (∀ w' z, Below w0.heap.size w0 w' → z ∈ ups n → Calls Try.prog 49 #[.agg (mc h), I z] w' fun e w'' => e = .returned (.bool (pr z)) ∧ Below w'.heap.size w' w'')) : Drops q (q + 1) w1 (ups n) (fun z => !pr z) := by
  intro w' z hb hz
  have c1 := (hb.cell (p := ⟨q, 0, none⟩) (by simp)).trans hcell
  have Hc := Lib.hid (hIs.out w' z (h01.trans (hb.mono (by omega))) hz)
  clear hb hIs hcell h01
  go_enter Try.func76, Try.ntmps76
  go_wp2_with fail
  refine Hc.out.mono ?_
  rintro e w2 ⟨rfl, hb2⟩
  go_wp2
  go_ret
  exact ⟨rfl, hb2⟩

theorem whereCyclic (f : M) (h : M) (w : World) (pr : Int → Bool) (hv : Valid f) (hIs : Hid (∀ w' z, Below w.heap.size w w' → z ∈ ups f.p.toNat → Calls Try.prog 49 #[.agg (mc h), I z] w' fun e w'' => e = .returned (.bool (pr z)) ∧ Below w'.heap.size w' w'')) :
    Calls Try.prog 48 #[.agg (mc f), .func (.func 49) #[.agg (mc h)] #[]] w fun e w' => ∃ v, e = .returned v ∧ OwI 2 w' w.heap.size v (keepF (fun z => !pr z) (ups f.p.toNat)) ∧ Below w.heap.size w w' := by
  have hp1 := hv.p1
  have hp5 := hv.p5
  obtain ⟨n, hn⟩ : ∃ n : Nat, n = f.p.toNat := ⟨_, rfl⟩
  have hfp : f.p = (n : Int) := by omega
  rw [← hn] at hIs ⊢
  have hpt := fun w' => points_any n w' (by omega)
  rw [← hfp] at hpt
  have Hpt := Lib.hid hpt
  have hn1 : 1 ≤ n := by omega
  have hn5 : n ≤ 5 := by omega
  clear hpt hfp hn
  go_enter Try.func48, Try.ntmps48
  go_wp2_with fail
  refine (Hpt.out _).mono ?_
  rintro e w1 ⟨v, rfl, ho, hb⟩
  have hB1 : w1.cell? ⟨w.heap.size + 1, 0, none⟩ = some (.func (.func 49) #[.agg (mc h)] #[]) := (hb.cell (p := ⟨w.heap.size + 1, 0, none⟩) (by simp)).trans ((Blk.new' _ _ _ (by simp)).cell 0)
  have hbel : Below w.heap.size w w1 := Below.trans (by (repeat (first | with_reducible assumption | with_reducible exact Below.refl _ _ | with_reducible refine Below.setCell ?_ (by first | omega | (simp <;> omega)) _ | with_reducible refine Below.alloc ?_ (by first | omega | (simp <;> omega)) _ | with_reducible refine Below.drew ?_ | with_reducible refine Below.drewN ?_ _))) (hb.mono (by simp <;> omega))
  replace ho := ho.mono (B' := w.heap.size + 1 + 1) (by simp)
  have hsz : w.heap.size + 1 + 1 ≤ w1.heap.size := by have := hb.size; simpa using this
  have hd := dropsCyclic h (w.heap.size + 1) w w1 n pr hB1 (by omega) hbel hIs
  obtain ⟨g, c, hv', _, _⟩ := World.ownsRow.form ho (by rw [ups_length]; omega)
  rw [ups_length] at hv'
  subst hv'
  have Hd := Lib.hid hd
  clear hb hB1 hd hIs
  go_wp2_with fail
  refine (deleteF_any g n c (w.heap.size + 1) (w.heap.size + 1 + 1) (ups n) (fun z => !pr z) w1 w1 ho (by omega) Hd.out (Below.refl _ _) hsz).mono ?_
  rintro e w2 ⟨v, rfl, ho2, hb2⟩
  have Ho := Lib.hid (ho2.mono (B' := w.heap.size) (by omega))
  replace hbel := hbel.trans (hb2.mono (by omega))
  clear ho ho2 hb2
  go_wp2
  go_ret
  exact ⟨_, rfl, Ho.out, hbel⟩

theorem isCyclic_any (f : M) (k : Nat) (w : World) (hf : Valid f) (hk : (k : Int) < f.p) :
    Calls Try.prog 49 #[.agg (mc f), .int .i64 k] w fun e w' => e = .returned (.bool (isCyc f k)) ∧ Below w.heap.size w w' := by
  have hp1 := hf.p1
  have hp5 := hf.p5
  have a1 : f.at k = ((go' f k 1 : Nat) : Int) := by
    have := hf.lo k (by omega) hk
    simp only [go']; omega
  have h0 := hf.lo k (by omega) hk
  have c1 := (Blk.new w 26 (mc f)).at_ (m := f) (k := k) (by omega)
  rw [a1] at c1
  clear a1
  go_enter Try.func49, Try.ntmps49
  go_wp2
  go_loopw [5, 12] (fun q i wr => ∃ j : Nat, (j : Int) ≤ f.p ∧ i = .int .i64 j ∧ q = I ((go' f k (j + 1) : Nat) : Int) ∧ Hid (back f k j = false) ∧ Blk wr w.heap.size 26 (mc f) ∧ Below w.heap.size w wr) (fun _ i _ => 5 - (intOf i).toNat)
  case atStart => exact ⟨0, by omega, rfl, rfl, rfl, Blk.new _ _ _, by (repeat (first | with_reducible assumption | with_reducible exact Below.refl _ _ | with_reducible refine Below.setCell ?_ (by first | omega | (simp <;> omega)) _ | with_reducible refine Below.alloc ?_ (by first | omega | (simp <;> omega)) _ | with_reducible refine Below.drew ?_ | with_reducible refine Below.drewN ?_ _))⟩
  case round =>
    obtain ⟨j, hj, rfl, rfl, hbk, hB, hbel⟩ := hrel
    clear c1
    by_cases hlt : (j : Int) < f.p
    · have hg := go_lt hf hk (j + 1)
      have c1 := hB.at_ (k := go' f k (j + 1)) (by omega)
      have a1 : f.at (go' f k (j + 1)) = ((go' f k (j + 1 + 1) : Nat) : Int) := by
        have := hf.lo (go' f k (j + 1)) (by omega) hg
        rw [show go' f k (j + 1 + 1) = (f.at (go' f k (j + 1))).toNat from rfl]; omega
      rw [a1] at c1
      clear a1
      have hg5 : ((go' f k (j + 1) : Nat) : Int) < 5 := by omega
      by_cases he : go' f k (j + 1) = k
      · have heb : (((go' f k (j + 1) : Nat) : Int) == (k : Int)) = true := by rw [he]; simp
        have Hr : Hid (isCyc f k = true) := by
          show _ = _
          rw [isCyc, Int.toNat_natCast, back_iff]
          exact ⟨j + 1, by omega, by omega, he⟩
        clear he
        generalize hq : go' f k (j + 1) = q at *
        clear hq
        go_wp2
        go_ret
        exact ⟨ret_bool Hr.out.symm, hbel⟩
      · have heb : (((go' f k (j + 1) : Nat) : Int) == (k : Int)) = false := by
          rw [beq_eq_false_iff_ne]; omega
        have Hs : Hid (back f k (j + 1) = false) := by show _ = _; rw [back, hbk.out]; simp [he]
        clear he
        generalize hq2 : go' f k (j + 1 + 1) = q2 at *
        generalize hq : go' f k (j + 1) = q at *
        have Hq2 := Lib.hid hq2
        clear hq hq2
        go_wp2
        go_roundw
        case rel => exact ⟨j + 1, by omega, by go_num, by rw [Hq2.out], Hs, hB, hbel⟩
        case measure => simp [intOf]; omega
    · obtain rfl : j = f.p.toNat := by omega
      have Hr : Hid (isCyc f k = false) := hbk
      go_wp2
      go_ret
      exact ⟨ret_bool Hr.out.symm, hbel⟩

def cycR (f : M) : List Int := if isMap f then sel (isCyc f) f.p.toNat else []
theorem cycR_bad {f : M} (h : isMap f = false) : cycR f = [] := by simp [cycR, h]
theorem cycR_good {f : M} (h : isMap f = true) : cycR f = sel (isCyc f) f.p.toNat := by simp [cycR, h]
theorem cycR_len (f : M) : (cycR f).length < 1073741824 := by
  cases h : isMap f
  · rw [cycR_bad h]; simp
  · rw [cycR_good h]; have := ((isMap_iff f).1 h).p5; have := sel_length (isCyc f) f.p.toNat; omega

theorem ImplCyclic_any (f : M) (w : World) :
    Calls Try.prog 13 #[.agg (mc f)] w fun e w' => ∃ v, e = .returned (.tuple #[v, I (cInv (isMap f))]) ∧ OwI 2 w' w.heap.size v (cycR f) ∧ Below w.heap.size w w' := by
  cases h : isMap f
  · have Hr := Lib.hid (cycR_bad h)
    go_enter Try.func13, Try.ntmps13
    go_wp2_with fail
    refine (isMap_any _ _).mono ?_
    rintro e w1 ⟨rfl, hb⟩
    rw [h]
    have hbel : Below w.heap.size w w1 := Below.trans (by (repeat (first | with_reducible assumption | with_reducible exact Below.refl _ _ | with_reducible refine Below.setCell ?_ (by first | omega | (simp <;> omega)) _ | with_reducible refine Below.alloc ?_ (by first | omega | (simp <;> omega)) _ | with_reducible refine Below.drew ?_ | with_reducible refine Below.drewN ?_ _))) (hb.mono (by simp <;> omega))
    clear hb
    go_wp2
    go_ret2
    exact ⟨_, rfl, by rw [Hr.out]; exact OwI.nil_, hbel⟩
  · have Hr := Lib.hid (cycR_good h)
    have hv := (isMap_iff f).1 h
    have hp1 := hv.p1
    have hp5 := hv.p5
    go_enter Try.func13, Try.ntmps13
    go_wp2_with fail
    refine (isMap_any _ _).mono ?_
    rintro e w1 ⟨rfl, hb⟩
    rw [h]
    have hs : Six w1 w.heap.size f := Six.below (Blk.six (Blk.new w _ _)) hb (by simp)
    have hbel : Below w.heap.size w w1 := Below.trans (by (repeat (first | with_reducible assumption | with_reducible exact Below.refl _ _ | with_reducible refine Below.setCell ?_ (by first | omega | (simp <;> omega)) _ | with_reducible refine Below.alloc ?_ (by first | omega | (simp <;> omega)) _ | with_reducible refine Below.drew ?_ | with_reducible refine Below.drewN ?_ _))) (hb.mono (by simp <;> omega))
    have hwh := whereCyclic f f w1 (isCyc f) hv (by
      intro w' z hb' hz
      obtain ⟨k, hk, rfl⟩ := ups_mem hz
      exact isCyclic_any f k w' hv (by omega))
    have Hwh := Lib.hid hwh
    clear hb hwh
    go_wp2_with fail
    refine Hwh.out.mono ?_
    rintro e w2 ⟨v, rfl, ho, hb⟩
    rw [keep_sel] at ho
    have Ho := Lib.hid (ho.mono hbel.size)
    replace hbel := hbel.trans (hb.mono hbel.size)
    clear hb Hwh ho
    go_wp2
    go_ret2
    exact ⟨_, rfl, by rw [Hr.out]; exact Ho.out, hbel⟩

theorem SpecCyclic_any (f : M) (w : World) :
    Calls Try.prog 14 #[.agg (mc f)] w fun e w' => ∃ v, e = .returned (.tuple #[v, I (cInv (isMap f))]) ∧ OwI 2 w' w.heap.size v (cycR f) ∧ Below w.heap.size w w' := by
  cases h : isMap f
  · have Hr := Lib.hid (cycR_bad h)
    go_enter Try.func14, Try.ntmps14
    go_wp2_with fail
    refine (l01Is_any _ _).mono ?_
    rintro e w1 ⟨rfl, hb⟩
    rw [h]
    have hbel : Below w.heap.size w w1 := Below.trans (by (repeat (first | with_reducible assumption | with_reducible exact Below.refl _ _ | with_reducible refine Below.setCell ?_ (by first | omega | (simp <;> omega)) _ | with_reducible refine Below.alloc ?_ (by first | omega | (simp <;> omega)) _ | with_reducible refine Below.drew ?_ | with_reducible refine Below.drewN ?_ _))) (hb.mono (by simp <;> omega))
    clear hb
    go_wp2
    go_ret2
    exact ⟨_, rfl, by rw [Hr.out]; exact OwI.nil_, hbel⟩
  · have hv := (isMap_iff f).1 h
    have Hr : Hid (cycR f = pts (im (pw f 60) (pw f 60).p.toNat)) := (cycR_good h).trans (cyc_pts hv).symm
    have hvp := pw_valid hv 60
    have Hm := Lib.hid (im_lt hvp (pw f 60).p.toNat (by have := hvp.p1; omega))
    go_enter Try.func14, Try.ntmps14
    go_wp2_with fail
    refine (l01Is_any _ _).mono ?_
    rintro e w1 ⟨rfl, hb⟩
    rw [h]
    have hs : Six w1 w.heap.size f := Six.below (Blk.six (Blk.new w _ _)) hb (by simp)
    have hbel : Below w.heap.size w w1 := Below.trans (by (repeat (first | with_reducible assumption | with_reducible exact Below.refl _ _ | with_reducible refine Below.setCell ?_ (by first | omega | (simp <;> omega)) _ | with_reducible refine Below.alloc ?_ (by first | omega | (simp <;> omega)) _ | with_reducible refine Below.drew ?_ | with_reducible refine Below.drewN ?_ _))) (hb.mono (by simp <;> omega))
    clear hb
    go_wp2_with fail
    refine (l01Power_any f 60 _ hv (by omega)).mono ?_
    rintro e w2 ⟨rfl, hb⟩
    replace hbel := hbel.trans (hb.mono hbel.size)
    clear hb hs
    go_wp2_with fail
    refine (l01Image_any (pw f 60) _ hvp).mono ?_
    rintro e w3 ⟨rfl, hb⟩
    replace hbel := hbel.trans (hb.mono hbel.size)
    clear hb
    go_wp2_with fail
    refine (l01Points_any _ _ Hm.out).mono ?_
    rintro e w4 ⟨v, rfl, ho, hb⟩
    have Ho := Lib.hid (ho.mono hbel.size)
    replace hbel := hbel.trans (hb.mono hbel.size)
    clear hb ho
    go_wp2
    go_ret2
    exact ⟨_, rfl, by rw [Hr.out]; exact Ho.out, hbel⟩

end Go.Proofs.Ytkbfocoaobiijaa
