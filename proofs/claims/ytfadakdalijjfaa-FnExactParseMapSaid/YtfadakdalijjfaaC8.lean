/- Contracts of the functions that read a map from a text; no conditions beyond those that each theorem states. -/
import Derived.Test.YtfadakdalijjfaaC7
namespace Go.Proofs.Ytfadakdalijjfaa
open Go.RowKit
set_option maxRecDepth 100000

theorem readOk_len {s : ByteArray} (h : inR s.size 1 5 = false) : mapOfOk (digs s s.size) = false := by unfold mapOfOk; rw [digs_length, h]; rfl
theorem readNo {s : ByteArray} (h : mapOfOk (digs s s.size) = false) : readR s = M0 ∧ readC s = 6 := by simp [readR, readC, mapOfR, h]
theorem readYes {s : ByteArray} (h : mapOfOk (digs s s.size) = true) : readR s = made (digs s s.size) ∧ readC s = 0 := by simp [readR, readC, mapOfR, h]
theorem wrap_dig (s : ByteArray) (k : Nat) : IntKind.i64.wrap (byt s k) = byt s k ∧ IntKind.i64.wrap (byt s k - 48) = byt s k - 48 := by
  have := byt_lo s k; have := byt_hi s k
  exact ⟨IntWalk.i64_in _ ⟨by omega, by omega⟩, IntWalk.i64_in _ ⟨by omega, by omega⟩⟩

theorem part_made (s : ByteArray) : part (s.size : Int) (fun j => byt s j - 48) (fun _ => 0) s.size = made (digs s s.size) := by
  have e : (digs s s.size).length = s.size := digs_length _ _
  unfold made
  rw [e]
  refine mk'_congr fun j _ => ?_
  by_cases h : j < s.size
  · rw [if_pos h, gi_digs s h]
  · rw [if_neg h, gi_out (by rw [digs_length]; omega)]

theorem ImplParseMap_any (s : ByteArray) (w : World) (hb : s.size < 1073741824) :
    Calls Try.prog 21 #[.string s] w fun e w' => e = .returned (.tuple #[.agg (mc (readR s)), I (readC s)]) ∧ Below w.heap.size w w' := by
  by_cases h5 : s.size ≤ 5
  · go_enter Try.func21, Try.ntmps21
    go_wp2
    go_loopw [5, 15] (fun _ i wr => ∃ k : Nat, k ≤ s.size ∧ i = .int .i64 k ∧ Blk wr w.heap.size 27 (mc M0) ∧ Blk wr (w.heap.size+1) 27 (mc (part (s.size : Int) (fun j => byt s j - 48) (fun _ => 0) k)) ∧ Below w.heap.size w wr)
      (fun _ i _ => s.size - (intOf i).toNat)
    case atStart =>
      refine ⟨0, by omega, rfl, ?_, ?_, by (repeat (first | with_reducible assumption | with_reducible exact Below.refl _ _ | with_reducible refine Below.setCell ?_ (by simp <;> omega) _ | with_reducible refine Below.alloc ?_ (by simp <;> omega) _ | with_reducible refine Below.drew ?_ | with_reducible refine Below.drewN ?_ _))⟩
      · exact (Blk.new w _ _).alloc _
      · rw [part_zero]; exact Blk.new' _ _ _ (by simp)
    case round =>
      obtain ⟨k, hk, rfl, hB1, hB2, hbel⟩ := hrel
      by_cases hlt : k < s.size
      · have hk5 : k < 5 := by omega
        have c3 := hB2.at_ hk5
        have z1 : wr.frozen? ⟨w.heap.size+1, 1 + k, none⟩ = false := hB2.frozen _
        have r1 := byt_run s hlt
        have w1 := (wrap_dig s k).1
        have w2 := (wrap_dig s k).2
        go_wp2
        go_roundw
        case rel => exact ⟨k + 1, by omega, by go_num, hB1.far (by simp) _, (hB2.set_ _ _).cast (part_step _ _ _ hk5 rfl), by (repeat (first | with_reducible assumption | with_reducible exact Below.refl _ _ | with_reducible refine Below.setCell ?_ (by simp <;> omega) _ | with_reducible refine Below.alloc ?_ (by simp <;> omega) _ | with_reducible refine Below.drew ?_ | with_reducible refine Below.drewN ?_ _))⟩
        case measure => simp [intOf]; omega
      · obtain rfl : k = s.size := by omega
        rw [part_made] at hB2
        obtain ⟨d0, d1, d2, d3, d4, d5⟩ := hB2.six
        have hlen := digs_length s s.size
        by_cases h1 : 1 ≤ s.size
        · have Hm : Hid (isMap (made (digs s s.size)) = okList (digs s s.size)) := isMap_made (by omega) (by omega)
          cases hv : okList (digs s s.size)
          · have Hr : Hid (readR s = M0 ∧ readC s = 6) := readNo (by unfold mapOfOk; rw [hv]; simp)
            have him : isMap (made (digs s s.size)) = false := Hm.out.trans hv
            go_wp2_with fail
            refine (isMap_any _ _).mono ?_
            rintro e w3 ⟨rfl, hb3⟩
            replace hB1 := hB1.below hb3 hB1.lt
            replace hbel := hbel.trans (hb3.mono hbel.size)
            clear hb3 d0 d1 d2 d3 d4 d5
            obtain ⟨e0, e1, e2, e3, e4, e5⟩ := hB1.six
            obtain ⟨z0, z1, z2, z3, z4, z5⟩ := hB1.fr6
            go_wp2
            refine bodyPost_ret (v := .tuple #[.agg (mc M0), I 6]) ?_ rfl ⟨by rw [Hr.out.1, Hr.out.2], by (repeat (first | with_reducible assumption | with_reducible exact Below.refl _ _ | with_reducible refine Below.setCell ?_ (by simp <;> omega) _ | with_reducible refine Below.alloc ?_ (by simp <;> omega) _ | with_reducible refine Below.drew ?_ | with_reducible refine Below.drewN ?_ _))⟩
            simp [results, Try.results21, go_sem, *]
            try exact ⟨rfl, rfl, rfl, rfl, rfl, rfl⟩
          · have Hr : Hid (readR s = made (digs s s.size) ∧ readC s = 0) := readYes (by unfold mapOfOk; rw [hv, hlen, inR_true.2 ⟨by omega, by omega⟩]; rfl)
            have him : isMap (made (digs s s.size)) = true := Hm.out.trans hv
            go_wp2_with fail
            refine (isMap_any _ _).mono ?_
            rintro e w3 ⟨rfl, hb3⟩
            replace hB1 := hB1.below hb3 hB1.lt
            replace hB2 := hB2.below hb3 hB2.lt
            replace hbel := hbel.trans (hb3.mono hbel.size)
            clear hb3 d0 d1 d2 d3 d4 d5
            obtain ⟨e0, e1, e2, e3, e4, e5⟩ := hB1.six
            obtain ⟨z0, z1, z2, z3, z4, z5⟩ := hB1.fr6
            obtain ⟨d0, d1, d2, d3, d4, d5⟩ := hB2.six
            go_wp2
            refine bodyPost_ret (v := .tuple #[.agg (mc (made (digs s s.size))), I 0]) ?_ rfl ⟨by rw [Hr.out.1, Hr.out.2], by (repeat (first | with_reducible assumption | with_reducible exact Below.refl _ _ | with_reducible refine Below.setCell ?_ (by simp <;> omega) _ | with_reducible refine Below.alloc ?_ (by simp <;> omega) _ | with_reducible refine Below.drew ?_ | with_reducible refine Below.drewN ?_ _))⟩
            simp [results, Try.results21, go_sem, *]
        · have hr : inR s.size 1 5 = false := inR_false.2 (by omega)
          have Hr : Hid (readR s = M0 ∧ readC s = 6) := readNo (readOk_len hr)
          have him : isMap (made (digs s s.size)) = false := isMap_p (by rw [made_p, hlen]; exact hr)
          clear hr
          go_wp2_with fail
          refine (isMap_any _ _).mono ?_
          rintro e w3 ⟨rfl, hb3⟩
          replace hB1 := hB1.below hb3 hB1.lt
          replace hbel := hbel.trans (hb3.mono hbel.size)
          clear hb3 d0 d1 d2 d3 d4 d5
          obtain ⟨e0, e1, e2, e3, e4, e5⟩ := hB1.six
          obtain ⟨z0, z1, z2, z3, z4, z5⟩ := hB1.fr6
          go_wp2
          refine bodyPost_ret (v := .tuple #[.agg (mc M0), I 6]) ?_ rfl ⟨by rw [Hr.out.1, Hr.out.2], by (repeat (first | with_reducible assumption | with_reducible exact Below.refl _ _ | with_reducible refine Below.setCell ?_ (by simp <;> omega) _ | with_reducible refine Below.alloc ?_ (by simp <;> omega) _ | with_reducible refine Below.drew ?_ | with_reducible refine Below.drewN ?_ _))⟩
          simp [results, Try.results21, go_sem, *]
          try exact ⟨rfl, rfl, rfl, rfl, rfl, rfl⟩
  · have Hr : Hid (readR s = M0 ∧ readC s = 6) := readNo (readOk_len (inR_false.2 (by omega)))
    have hB : Blk (w.alloc (.cells (mc M0) 27)) w.heap.size 27 (mc M0) := Blk.new _ _ _
    obtain ⟨e0, e1, e2, e3, e4, e5⟩ := hB.six
    obtain ⟨z0, z1, z2, z3, z4, z5⟩ := hB.fr6
    clear hB
    go_enter Try.func21, Try.ntmps21
    go_wp2
    refine bodyPost_ret (v := .tuple #[.agg (mc M0), I 6]) ?_ rfl ⟨by rw [Hr.out.1, Hr.out.2], by (repeat (first | with_reducible assumption | with_reducible exact Below.refl _ _ | with_reducible refine Below.setCell ?_ (by simp <;> omega) _ | with_reducible refine Below.alloc ?_ (by simp <;> omega) _ | with_reducible refine Below.drew ?_ | with_reducible refine Below.drewN ?_ _))⟩
    simp [results, Try.results21, go_sem, *]
    try exact ⟨rfl, rfl, rfl, rfl, rfl, rfl⟩

theorem l01Read_any (s : ByteArray) (w : World) (hb : s.size < 1073741824) :
    Calls Try.prog 48 #[.string s] w fun e w' => e = .returned (.tuple #[.agg (mc (readR s)), .bool (mapOfOk (digs s s.size))]) ∧ Below w.heap.size w w' := by
  cases hr : inR s.size 1 5
  · have Hr : Hid (readR s = M0 ∧ mapOfOk (digs s s.size) = false) := ⟨(readNo (readOk_len hr)).1, readOk_len hr⟩
    have hr' := inR_false.1 hr
    clear hr
    have hB : ∀ o, Blk ((w.alloc (.cells (mc M0) 27)).alloc o) w.heap.size 27 (mc M0) := fun o => (Blk.new _ _ _).alloc _
    have hsx := fun o => (hB o).six
    have hfr := fun o => (hB o).fr6
    go_enter Try.func48, Try.ntmps48
    by_cases h0 : s.size = 0
    · go_wp2
      refine bodyPost_ret (v := .tuple #[.agg (mc M0), .bool false]) ?_ rfl ⟨by rw [Hr.out.1, Hr.out.2], by (repeat (first | with_reducible assumption | with_reducible exact Below.refl _ _ | with_reducible refine Below.setCell ?_ (by simp <;> omega) _ | with_reducible refine Below.alloc ?_ (by simp <;> omega) _ | with_reducible refine Below.drew ?_ | with_reducible refine Below.drewN ?_ _))⟩
      simp [results, Try.results48, go_sem, *]
      try exact ⟨rfl, rfl, rfl, rfl, rfl, rfl⟩
    · have h6 : 6 ≤ s.size := by omega
      go_wp2
      refine bodyPost_ret (v := .tuple #[.agg (mc M0), .bool false]) ?_ rfl ⟨by rw [Hr.out.1, Hr.out.2], by (repeat (first | with_reducible assumption | with_reducible exact Below.refl _ _ | with_reducible refine Below.setCell ?_ (by simp <;> omega) _ | with_reducible refine Below.alloc ?_ (by simp <;> omega) _ | with_reducible refine Below.drew ?_ | with_reducible refine Below.drewN ?_ _))⟩
      simp [results, Try.results48, go_sem, *]
      try exact ⟨rfl, rfl, rfl, rfl, rfl, rfl⟩
  · have hr1 := (inR_true.1 hr).1
    have hr2 := (inR_true.1 hr).2
    have Hin := Lib.hid hr
    clear hr
    go_enter Try.func48, Try.ntmps48
    go_wp2
    go_loopw [4, 5] (fun v i wr => ∃ k : Nat, k ≤ s.size ∧ i = .int .i64 k ∧ OwI 2 wr (w.heap.size + 1) v (digs s k) ∧ Blk wr w.heap.size 27 (mc M0) ∧ Below w.heap.size w wr) (fun _ i _ => 5 - (intOf i).toNat)
    case atStart => exact ⟨0, by omega, rfl, OwI.made' (by simp) (Nat.le_refl _), (Blk.new _ _ _).alloc _, by (repeat (first | with_reducible assumption | with_reducible exact Below.refl _ _ | with_reducible refine Below.setCell ?_ (by simp <;> omega) _ | with_reducible refine Below.alloc ?_ (by simp <;> omega) _ | with_reducible refine Below.drew ?_ | with_reducible refine Below.drewN ?_ _))⟩
    case round =>
      obtain ⟨k, hk, rfl, hown, hB, hbel⟩ := hrel
      obtain ⟨A, c, hv, hrd⟩ := hown.form
      rw [digs_length] at hv
      subst hv
      have Hrd := Lib.hid hrd
      clear hrd
      by_cases hlt : k < s.size
      · have r1 := byt_run s hlt
        have w1 := (wrap_dig s k).1
        have w2 := (wrap_dig s k).2
        go_wp2_with (at_builtin; refine wpList_pushI rfl (.tmp 23) (.tmp 29) rfl (w.heap.size + 1) _ (digs s k) rfl (hown.alloc _) wr.heap.size 1 (byt s k - 48) rfl ((Blk.new _ _ _).cell 0) (by rw [digs_length]; omega) (by have := hbel.size; simp; omega) (wr.heap.size + 1) (by simp) ?_; intro g' cap w1 hown' hgr hg' hlt')
        go_roundw
        case rel => exact ⟨k + 1, by omega, by go_num, by rw [digs_succ]; simpa [digs_length] using hown', (hB.alloc _).grown hgr (hown.ne (by omega)), hown.alloc _ |>.bel (hbel.alloc hbel.size _) hgr (by omega) (by have := hbel.size; simp; omega)⟩
        case measure => simp [intOf]; omega
      · obtain rfl : k = s.size := by omega
        have Hlen : Hid ((digs s s.size).length = s.size) := digs_length _ _
        go_wp2
        go_loopw [6] (fun i wq => ∃ k : Nat, k ≤ s.size ∧ i = .int .i64 k ∧ Hid (∀ j, j < k → inR (gi (digs s s.size) j) 0 ((s.size : Int) - 1) = true) ∧ Hid (RdI wq wr.heap.size A (digs s s.size)) ∧ Blk wq w.heap.size 27 (mc M0) ∧ Below wr.heap.size wr wq) (fun i _ => s.size - (intOf i).toNat)
        case atStart => exact ⟨0, by omega, rfl, fun j hj => absurd hj (by omega), Hrd, hB, Below.refl _ _⟩
        case round =>
          obtain ⟨k, hk, rfl, hg, Hrd, hB, hb2⟩ := hrel
          have hb0 := hbel.size
          replace hbel := hbel.trans (hb2.mono hbel.size)
          obtain ⟨e0, e1, e2, e3, e4, e5⟩ := hB.six
          obtain ⟨z0, z1, z2, z3, z4, z5⟩ := hB.fr6
          by_cases hlt : k < s.size
          · obtain ⟨b, off, hA, hbb, c1⟩ := RdI.at_ Hrd.out (k := k) (by rw [Hlen.out]; exact hlt)
            have HA := Lib.hid hA
            clear hA
            cases HA.out
            cases hin : inR (gi (digs s s.size) k) 0 ((s.size : Int) - 1)
            · have Hr : Hid (readR s = M0 ∧ mapOfOk (digs s s.size) = false) := by
                have h1 : okList (digs s s.size) = false := by
                  cases h : okList (digs s s.size) with
                  | false => rfl
                  | true => have := (okList_iff _).1 h k (by rw [Hlen.out]; exact hlt); rw [Hlen.out, hin] at this; cases this
                have : mapOfOk (digs s s.size) = false := by unfold mapOfOk; rw [h1]; simp
                exact ⟨(readNo this).1, this⟩
              go_wp2_with (go_at_call 50; refine (l01In_any _ _ _ _).mono ?_; rintro e w' ⟨rfl, rfl⟩)
              refine bodyPost_ret (v := .tuple #[.agg (mc M0), .bool false]) ?_ rfl ⟨by rw [Hr.out.1, Hr.out.2], by (repeat (first | with_reducible assumption | with_reducible exact Below.refl _ _ | with_reducible refine Below.setCell ?_ (by simp <;> omega) _ | with_reducible refine Below.alloc ?_ (by simp <;> omega) _ | with_reducible refine Below.drew ?_ | with_reducible refine Below.drewN ?_ _))⟩
              simp [results, Try.results48, go_sem, *]
              try exact ⟨rfl, rfl, rfl, rfl, rfl, rfl⟩
            · have Hs : Hid (∀ j, j < k + 1 → inR (gi (digs s s.size) j) 0 ((s.size : Int) - 1) = true) := by
                intro j hj; by_cases e : j = k
                · subst e; exact hin
                · exact hg.out j (by omega)
              go_wp2_with (go_at_call 50; refine (l01In_any _ _ _ _).mono ?_; rintro e w' ⟨rfl, rfl⟩)
              go_roundw
              case rel => exact ⟨k + 1, by omega, by go_num, Hs.out, Hrd, hB, hb2⟩
              case measure => simp [intOf]; omega
          · have Hr : Hid (readR s = made (digs s s.size) ∧ mapOfOk (digs s s.size) = true) := by
              have h1 : okList (digs s s.size) = true := (okList_iff _).2 fun j hj => by
                have := hg.out j (by rw [Hlen.out] at hj; omega)
                rwa [Hlen.out]
              have : mapOfOk (digs s s.size) = true := by unfold mapOfOk; rw [h1, Hlen.out, Hin.out]; rfl
              exact ⟨(readYes this).1, this⟩
            go_wp2_with fail
            refine (l01Made_any A s.size c (digs s s.size) _ (Hrd.out.more hb2.size) Hlen.out (by omega)).mono ?_
            rintro e w1 ⟨rfl, hb1⟩
            replace hB := hB.below hb1 hB.lt
            replace hbel := hbel.trans (hb1.mono hbel.size)
            clear hb1 e0 e1 e2 e3 e4 e5 z0 z1 z2 z3 z4 z5
            obtain ⟨e0, e1, e2, e3, e4, e5⟩ := hB.six
            obtain ⟨z0, z1, z2, z3, z4, z5⟩ := hB.fr6
            go_wp2
            refine bodyPost_ret (v := .tuple #[.agg (mc (made (digs s s.size))), .bool true]) ?_ rfl ⟨by rw [Hr.out.1, Hr.out.2], by (repeat (first | with_reducible assumption | with_reducible exact Below.refl _ _ | with_reducible refine Below.setCell ?_ (by simp <;> omega) _ | with_reducible refine Below.alloc ?_ (by simp <;> omega) _ | with_reducible refine Below.drew ?_ | with_reducible refine Below.drewN ?_ _))⟩
            simp [results, Try.results48, go_sem, *]

theorem SpecParseMap_any (s : ByteArray) (w : World) (hb : s.size < 1073741824) :
    Calls Try.prog 20 #[.string s] w fun e w' => e = .returned (.tuple #[.agg (mc (readR s)), I (readC s)]) ∧ Below w.heap.size w w' := by
  go_enter Try.func20, Try.ntmps20
  go_wp2_with fail
  refine (l01Read_any _ _ hb).mono ?_
  rintro e w1 ⟨rfl, hb1⟩
  have hB : Blk w1 w.heap.size 27 (mc M0) := Blk.after hb1 (by simp)
  have hbel : Below w.heap.size w w1 := Below.trans (by (repeat (first | with_reducible assumption | with_reducible exact Below.refl _ _ | with_reducible refine Below.setCell ?_ (by simp <;> omega) _ | with_reducible refine Below.alloc ?_ (by simp <;> omega) _ | with_reducible refine Below.drew ?_ | with_reducible refine Below.drewN ?_ _))) (hb1.mono (by simp))
  clear hb1
  have hlt := hB.lt
  have hne : ¬ w.heap.size = w1.heap.size := by omega
  have hne' : ¬ w1.heap.size = w.heap.size := by omega
  obtain ⟨e0, e1, e2, e3, e4, e5⟩ := hB.six
  obtain ⟨z0, z1, z2, z3, z4, z5⟩ := hB.fr6
  clear hB
  cases hv : mapOfOk (digs s s.size)
  · have Hr : Hid (readR s = M0 ∧ readC s = 6) := readNo hv
    clear hv
    go_wp2
    refine bodyPost_ret (v := .tuple #[.agg (mc M0), I 6]) ?_ rfl ⟨by rw [Hr.out.1, Hr.out.2], by (repeat (first | with_reducible assumption | with_reducible exact Below.refl _ _ | with_reducible refine Below.setCell ?_ (by simp <;> omega) _ | with_reducible refine Below.alloc ?_ (by simp <;> omega) _ | with_reducible refine Below.drew ?_ | with_reducible refine Below.drewN ?_ _))⟩
    simp [results, Try.results20, go_sem, *]
    try exact ⟨rfl, rfl, rfl, rfl, rfl, rfl⟩
  · have Hr : Hid (readC s = 0) := (readYes hv).2
    clear hv
    go_wp2
    refine bodyPost_ret (v := .tuple #[.agg (mc (readR s)), I 0]) ?_ rfl ⟨by rw [Hr.out], by (repeat (first | with_reducible assumption | with_reducible exact Below.refl _ _ | with_reducible refine Below.setCell ?_ (by simp <;> omega) _ | with_reducible refine Below.alloc ?_ (by simp <;> omega) _ | with_reducible refine Below.drew ?_ | with_reducible refine Below.drewN ?_ _))⟩
    simp [results, Try.results20, go_sem, *]

end Go.Proofs.Ytfadakdalijjfaa
