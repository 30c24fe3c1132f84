/- Contract of the function that strikes neighbours that are alike; the list is a row of the call's own. -/
import Derived.Test.YtkbfocoaobiijaaD1
import Derived.Test.YtkbfocoaobiijaaDd
import Derived.Deep.QuietTactic
import Derived.BigQuiet
namespace Go.Proofs.Ytkbfocoaobiijaa
open Go.RowKit
set_option maxRecDepth 100000

theorem last_take {zs : List Int} {k : Nat} (h0 : 0 < k) (hk : k ≤ zs.length) : (zs.take k).getLast? = some (gi zs (k - 1)) := by
  rw [List.getLast?_eq_getElem?, List.length_take, Nat.min_eq_left hk, List.getElem?_take, if_pos (by omega), List.getElem?_eq_getElem (by omega), gi_eq (by omega)]
theorem dd_take {zs : List Int} {k : Nat} (h0 : 0 < k) (hk : k < zs.length) : dd (zs.take (k + 1)) = if gi zs (k - 1) = gi zs k then dd (zs.take k) else dd (zs.take k) ++ [gi zs k] := by
  have e : zs.take (k + 1) = zs.take k ++ [gi zs k] := by
    rw [List.take_add_one, List.getElem?_eq_getElem hk, gi_eq hk]; rfl
  rw [e, dd_snoc _ (by intro h; have h' := congrArg List.length h; rw [List.length_take, List.length_nil] at h'; omega), last_take h0 (by omega)]
  simp

theorem compact_any (g n c B : Nat) (zs : List Int) (w : World) (ho : OwI 2 w B (.slice (some ⟨g, 0, none⟩) n c) zs) (hb : n < 1073741824) :
    Calls Try.prog 83 #[.slice (some ⟨g, 0, none⟩) n c] w fun e w' => ∃ v, e = .returned v ∧ OwI 2 w' B v (dd zs) ∧ Below B w w' := by
  have hcap := ho.cap
  have Hn := Lib.hid hcap.1
  have hnc := hcap.2
  clear hcap
  by_cases h2 : n < 2
  · have Hr : Hid (dd zs = zs) := by
      have := Hn.out
      match zs, this with
      | [], _ => rfl
      | [_], _ => rfl
      | _ :: _ :: _, h => simp at h; omega
    go_enter Try.func83, Try.ntmps83
    go_wp2
    go_ret
    exact ⟨_, rfl, by rw [Hr.out]; exact ho, Below.refl _ _⟩
  · go_enter Try.func83, Try.ntmps83
    go_wp2_with fail
    go_loopw [3] (fun i wr => ∃ k : Nat, 1 ≤ k ∧ k ≤ n ∧ i = .int .i64 k ∧ Hid (dd (zs.take k) = zs.take k) ∧ OwI 2 wr B (.slice (some ⟨g, 0, none⟩) n c) zs ∧ Below B w wr) (fun i _ => n - (intOf i).toNat)
    case atStart =>
      refine ⟨1, by omega, by omega, rfl, ?_, ho, Below.refl _ _⟩
      show _ = _
      match zs, Hn.out with
      | [], _ => rfl
      | _ :: _, _ => rfl
    case round =>
      clear ho
      obtain ⟨k, hk1, hk, rfl, hd, ho, hbel⟩ := hrel
      by_cases hlt : k < n
      · obtain ⟨c1, _⟩ := ho.spotD (k := k) (by rw [Hn.out]; exact hlt)
        obtain ⟨c2, _⟩ := ho.spotD (k := k - 1) (by rw [Hn.out]; omega)
        have hwk : IntKind.i64.wrap ((k : Int) - 1) = ((k - 1 : Nat) : Int) := by rw [IntWalk.i64_in _ ⟨by omega, by omega⟩]; omega
        have i0 : (0 : Int) ≤ (k : Int) := by omega
        have i1 : (k : Int) < (n : Int) := by omega
        have i2 : (0 : Int) ≤ ((k - 1 : Nat) : Int) := by omega
        have i3 : ((k - 1 : Nat) : Int) < (n : Int) := by omega
        have hdt := dd_take (zs := zs) (k := k) (by omega) (by rw [Hn.out]; exact hlt)
        have Hdt := Lib.hid hdt
        clear hdt
        by_cases he : gi zs (k - 1) = gi zs k
        · have heb : (gi zs k == gi zs (k - 1)) = true := by rw [he]; simp
          have Hx : Hid (dd (zs.take (k + 1)) = zs.take k) := by show _ = _; rw [Hdt.out, if_pos he, hd.out]
          clear he
          go_wp2_with fail
          go_quiet (fail)
          have ho2 := ho.drewN nq
          have hbel2 := hbel.drewN nq
          generalize wr.drewN nq = w2 at ho2 hbel2 ⊢
          clear ho hbel c1 c2
          go_wp2_with fail
          go_loopw [3, 5] (fun i j wq => ∃ (a m : Nat) (rs : List Int), i = .int .i64 a ∧ j = .int .i64 m ∧ 1 ≤ m ∧ m ≤ n - k ∧ a < k + m ∧ 1 ≤ a ∧ Hid (rs.length = n ∧ rs.take a = dd (zs.take (k + m)) ∧ ∀ t, k + m - 1 ≤ t → t < n → gi rs t = gi zs t) ∧ OwI 2 wq B (.slice (some ⟨g, 0, none⟩) n c) rs ∧ Below B w wq) (fun _ j _ => n - (intOf j).toNat)
          case atStart => exact ⟨k, 1, zs, rfl, rfl, by omega, by omega, by omega, by omega, ⟨Hn.out, Hx.out.symm, fun _ _ _ => rfl⟩, ho2, hbel2⟩
          case round =>
            clear ho2 hbel2
            obtain ⟨a, m, rs, rfl, rfl, hm1, hmn, ham, ha1, Hy, hor, hbel⟩ := hrel
            by_cases hlm : m < n - k
            · obtain ⟨c1, _⟩ := hor.spotD (k := k + m) (by rw [Hy.out.1]; omega)
              obtain ⟨c2, _⟩ := hor.spotD (k := k + (m - 1)) (by rw [Hy.out.1]; omega)
              rw [Hy.out.2.2 (k + m) (by omega) (by omega)] at c1
              rw [Hy.out.2.2 (k + (m - 1)) (by omega) (by omega)] at c2
              have hwm : IntKind.i64.wrap ((m : Int) - 1) = ((m - 1 : Nat) : Int) := by rw [IntWalk.i64_in _ ⟨by omega, by omega⟩]; omega
              have j0 : (0 : Int) ≤ (m : Int) := by omega
              have j1 : (m : Int) < ((n - k : Nat) : Int) := by omega
              have j2 : (0 : Int) ≤ ((m - 1 : Nat) : Int) := by omega
              have j3 : ((m - 1 : Nat) : Int) < ((n - k : Nat) : Int) := by omega
              have hdm := dd_take (zs := zs) (k := k + m) (by omega) (by rw [Hn.out]; omega)
              rw [show k + m - 1 = k + (m - 1) by omega] at hdm
              have Hdm := Lib.hid hdm
              clear hdm
              by_cases he2 : gi zs (k + (m - 1)) = gi zs (k + m)
              · have heb2 : (gi zs (k + m) != gi zs (k + (m - 1))) = false := by rw [he2]; simp
                have Hz : Hid (rs.length = n ∧ rs.take a = dd (zs.take (k + (m + 1))) ∧ ∀ t, k + (m + 1) - 1 ≤ t → t < n → gi rs t = gi zs t) :=
                  ⟨Hy.out.1, by rw [← Nat.add_assoc, Hdm.out, if_pos he2]; exact Hy.out.2.1, fun t h1 h2 => Hy.out.2.2 t (by omega) h2⟩
                clear he2
                go_wp2_with fail
                go_quiet (fail)
                go_wp2
                go_roundw
                case rel => exact ⟨a, m + 1, rs, rfl, by go_num, by omega, by omega, by omega, ha1, Hz, hor.drewN _, hbel.drewN _⟩
                case measure => simp [intOf]; omega
              · have heb2 : (gi zs (k + m) != gi zs (k + (m - 1))) = true := by simpa using fun h => he2 h.symm
                obtain ⟨c3, z3, hgl, hBg, hst⟩ := hor.spotD (k := a) (by rw [Hy.out.1]; omega)
                have Hz : Hid ((rs.set a (gi zs (k + m))).length = n ∧ (rs.set a (gi zs (k + m))).take (a + 1) = dd (zs.take (k + (m + 1))) ∧ ∀ t, k + (m + 1) - 1 ≤ t → t < n → gi (rs.set a (gi zs (k + m))) t = gi zs t) := by
                  refine ⟨by simp [Hy.out.1], ?_, fun t h1 h2 => ?_⟩
                  · rw [← Nat.add_assoc, Hdm.out, if_neg he2, ← Hy.out.2.1, List.take_add_one, List.take_set_of_le (Nat.le_refl _)]
                    simp [show a < rs.length by rw [Hy.out.1]; omega]
                  · rw [← Hy.out.2.2 t (by omega) h2]
                    unfold gi
                    simp [List.getD, show ¬ a = t by omega]
                have Hst := Lib.hid (fun nq => (hor.drewN nq).spotD (k := a) (by rw [Hy.out.1]; omega))
                have k0 : (0 : Int) ≤ (a : Int) := by omega
                have k1 : (a : Int) < (n : Int) := by omega
                clear he2 hst
                go_wp2_with fail
                go_quiet (fail)
                go_wp2
                go_roundw
                case rel => exact ⟨a + 1, m + 1, _, by go_num, by go_num, by omega, by omega, by omega, by omega, Hz, (Hst.out _).2.2.2.2 _, (hbel.drewN _).setCell hBg _⟩
                case measure => simp [intOf]; omega
            · obtain rfl : m = n - k := by omega
              have Hres : Hid (dd zs = rs.take a) := by
                show _ = _
                rw [Hy.out.2.1, show k + (n - k) = n by omega, ← Hn.out, List.take_length]
              obtain ⟨w9, hcl, ho9, hb9⟩ := clearI hor Hy.out.1 (a := a) (by omega) 0 (c - a)
              have hbel9 := hbel.trans hb9
              have k0 : (0 : Int) ≤ (a : Int) := by omega
              have k1 : (a : Int) < (n : Int) := by omega
              clear hb9 hor hbel
              go_wp2
              go_ret
              exact ⟨_, rfl, by rw [Hres.out]; exact ho9, hbel9⟩
        · have heb : (gi zs k == gi zs (k - 1)) = false := by rw [beq_eq_false_iff_ne]; exact fun h => he h.symm
          have Hx : Hid (dd (zs.take (k + 1)) = zs.take (k + 1)) := by
            show _ = _
            rw [Hdt.out, if_neg he, hd.out, List.take_add_one, List.getElem?_eq_getElem (by rw [Hn.out]; exact hlt), gi_eq (by rw [Hn.out]; exact hlt)]; rfl
          clear he
          go_wp2_with fail
          go_quiet (fail)
          go_wp2
          go_roundw
          case rel => exact ⟨k + 1, by omega, by omega, by go_num, Hx, ho.drewN _, hbel.drewN _⟩
          case measure => simp [intOf]; omega
      · obtain rfl : k = n := by omega
        have Hr : Hid (dd zs = zs) := by
          have := hd.out
          rwa [← Hn.out, List.take_length] at this
        go_wp2
        go_ret
        exact ⟨_, rfl, by rw [Hr.out]; exact ho, hbel⟩

end Go.Proofs.Ytkbfocoaobiijaa
