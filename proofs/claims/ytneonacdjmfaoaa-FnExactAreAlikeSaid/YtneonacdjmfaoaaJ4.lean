/- Contract of the reference's numbers of classes from a table; at most 300 rows. -/
import Derived.Test.YtneonacdjmfaoaaJ3
namespace Go.Proofs.Ytneonacdjmfaoaa
open Go.RowKit
set_option maxRecDepth 100000
set_option linter.unusedSimpArgs false
set_option linter.unusedVariables false

def both (Q : Nat → Nat → Bool) (k i : Nat) : Bool := Q i k && Q k i
theorem OwV.rdA {e : TypeId} {w : World} {B n c : Nat} {A : Option Addr} {vs : List Value} (h : OwV e w B (.slice A n c) vs) : RdV w w.heap.size A vs := by
  obtain ⟨A', c', e, h⟩ := h.form
  injection e with e1
  subst e1
  exact h
theorem RdV.at0 {w : World} {B : Nat} {b off : Nat} {vs : List Value} (h : RdV w B (some ⟨b, off, none⟩) vs) {k : Nat} (hk : k < vs.length) : w.cell? ⟨b, off + k, none⟩ = some (gv vs k) := by
  obtain ⟨b', off', e, _, c⟩ := h.at_ hk
  injection e with e
  injection e with e1 e2 _
  subst e1 e2
  exact c
theorem RdI.at0 {w : World} {B : Nat} {b off : Nat} {zs : List Int} (h : RdI w B (some ⟨b, off, none⟩) zs) {k : Nat} (hk : k < zs.length) : w.cell? ⟨b, off + k, none⟩ = some (I (gi zs k)) := by
  obtain ⟨b', off', e, _, c⟩ := h.at_ hk
  injection e with e
  injection e with e1 e2 _
  subst e1 e2
  exact c

set_option maxHeartbeats 1000000 in
theorem l03Classes_any (Av : Option Addr) (N cv : Nat) (vs : List Value) (Q : Nat → Nat → Bool) (B : Nat) (w : World) (ho : OwV TBS w B (.slice Av N cv) vs) (hl : vs.length = N) (hT : Tbl w B N (Value.slice Av N cv).ownBlock vs Q) (hN : N ≤ 300) :
    Calls Try.prog 53 #[.slice Av N cv] w (RetC (nm (both Q) N).1 w) := by
  have HR := Lib.hid ho.rdA
  have Hl := Lib.hid hl
  have HT := Lib.hid hT
  clear ho hl hT
  go_enter Try.func53, Try.ntmps53
  go_wp2_with fail
  go_loopw [3, 4, 5] (fun v nx i wr => ∃ q : Nat, i = .int .i64 q ∧ q ≤ N ∧ nx = I (nm (both Q) q).2 ∧ Below w.heap.size w wr ∧ OwI 2 wr w.heap.size v (nm (both Q) q).1) (fun _ _ i _ => N - (intOf i).toNat)
  case atStart => exact ⟨0, rfl, by omega, rfl, (Below.refl _ _).alloc (Nat.le_refl _) _, OwI.made (Nat.le_refl _)⟩
  case round =>
    obtain ⟨q, rfl, hq, rfl, hb', ho⟩ := hrel
    have hnl := nm_length (both Q) q
    have hnb := nm_bd (both Q) q
    obtain ⟨A1, c1, hv, _⟩ := ho.form
    rw [hnl] at hv
    subst hv
    have Hb := Lib.hid hb'
    have Ho1 := Lib.hid ho
    have hsz := hb'.size
    clear hb' ho
    by_cases hqN : q < N
    · have hqz : (q : Int) < (N : Int) := by omega
      obtain ⟨b, off, rfl, hbb, _⟩ := RdV.at_ HR.out (k := q) (by rw [Hl.out]; exact hqN)
      obtain ⟨gq, e1, e2, _, _⟩ := HT.out q (by rw [Hl.out]; exact hqN)
      have E1 := Lib.hid e1
      have E2 := Lib.hid e2
      clear e1 e2
      go_wp2_with fail
      go_loopw [6, 7] (fun own k wq => ∃ m : Nat, k = .int .i64 m ∧ m ≤ q ∧ Below wr.heap.size wr wq ∧ ((own = I (-1) ∧ Hid (∀ t, t < m → both Q t q = false)) ∨ ∃ t, t < q ∧ own = I (gi (nm (both Q) q).1 t) ∧ Hid (nm (both Q) (q + 1) = ((nm (both Q) q).1 ++ [gi (nm (both Q) q).1 t], (nm (both Q) q).2)))) (fun _ k _ => q - (intOf k).toNat)
      case atStart => exact ⟨0, rfl, by omega, Below.refl _ _, .inl ⟨rfl, fun t ht => by omega⟩⟩
      case round =>
        obtain ⟨m, rfl, hm, hbq, hor⟩ := hrel
        have Hbq := Lib.hid hbq
        have hsq := hbq.size
        have Hbw := Lib.hid (Hb.out.trans (hbq.mono hsz))
        have Ho3 := Lib.hid (Ho1.out.below hbq (Nat.le_refl _))
        clear hbq
        rcases hor with ⟨rfl, hno⟩ | ⟨t, htq, rfl, hnm⟩
        · by_cases hmq : m < q
          · have hmz : (m : Int) < (q : Int) := by omega
            have hmN : (m : Int) < (N : Int) := by omega
            obtain ⟨gm, f1, f2, _, _⟩ := HT.out m (by rw [Hl.out]; omega)
            have x1 := RdV.at0 (Rd.below HR.out Hbw.out) (k := q) (by rw [Hl.out]; exact hqN)
            have x2 := RdV.at0 (Rd.below HR.out Hbw.out) (k := m) (by rw [Hl.out]; omega)
            rw [E1.out] at x1
            rw [f1] at x2
            have x3 := (E2.out.below Hbw.out E2.out.lt).cell (i := m) (by omega)
            have x4 := (f2.below Hbw.out f2.lt).cell (i := q) hqN
            clear f1 f2
            obtain ⟨A, offA, rfl, hbA, _⟩ := RdI.at_ Ho3.out.rdA (k := m) (by rw [hnl]; exact hmq)
            have x5 := RdI.at0 Ho3.out.rdA (k := m) (by rw [hnl]; exact hmq)
            have hbo : ∀ a b, Q q m = a → Q m q = b → both Q m q = (a && b) := fun a b h1 h2 => by unfold both; rw [h1, h2]
            have nxt : both Q m q = false → Hid (∀ t, t < m + 1 → both Q t q = false) := fun h t ht => by
              by_cases e : t = m
              · rw [e]; exact h
              · exact hno.out t (by omega)
            cases h1 : Q q m
            · rw [h1] at x3
              have Hn := nxt (by cases h2 : Q m q <;> rw [hbo _ _ h1 h2] <;> rfl)
              clear nxt hbo h1 x2 x4 x5
              go_wp2_with fail
              go_roundw
              case rel => exact ⟨m + 1, by go_num, by omega, Hbq.out, .inl ⟨rfl, Hn⟩⟩
              case measure => simp [intOf]; omega
            · rw [h1] at x3
              cases h2 : Q m q
              · rw [h2] at x4
                have Hn := nxt (by rw [hbo _ _ h1 h2]; rfl)
                clear nxt hbo h1 h2 x5
                go_wp2_with fail
                go_roundw
                case rel => exact ⟨m + 1, by go_num, by omega, Hbq.out, .inl ⟨rfl, Hn⟩⟩
                case measure => simp [intOf]; omega
              · rw [h2] at x4
                have Hn : Hid (nm (both Q) (q + 1) = ((nm (both Q) q).1 ++ [gi (nm (both Q) q).1 m], (nm (both Q) q).2)) := nm_hit hmq (by rw [hbo _ _ h1 h2]; rfl) hno.out
                clear nxt hbo h1 h2
                go_wp2_with fail
                go_roundw
                case rel => exact ⟨m + 1, by go_num, by omega, Hbq.out, .inr ⟨m, hmq, rfl, Hn⟩⟩
                case measure => simp [intOf]; omega
          · obtain rfl : m = q := by omega
            have hmz : ¬ ((m : Int) < (m : Int)) := by omega
            have Hn : Hid (nm (both Q) (m + 1) = ((nm (both Q) m).1 ++ [(nm (both Q) m).2], (nm (both Q) m).2 + 1)) := nm_new hno.out
            have hwr : IntKind.i64.wrap ((nm (both Q) m).2 + 1) = (nm (both Q) m).2 + 1 := IntWalk.i64_in _ ⟨by omega, by omega⟩
            go_wp2_with (at_builtin; refine wpList_pushI rfl (.tmp 49) (.tmp 51) rfl w.heap.size (.slice A1 m c1) (nm (both Q) m).1 rfl (Ho3.out.alloc _) wr.heap.size 1 (nm (both Q) m).2 rfl ((Blk.new _ _ _).cell 0) (by rw [hnl]; omega) (by simp; omega) (wr.heap.size + 1) (by simp) ?_; intro g' cap w4 ho' hgr hg' hlt'; have Hb4 := Lib.hid ((Ho3.out.alloc (.cells #[I (nm (both Q) m).2] 2)).bel (Hbw.out.alloc (by omega) _) hgr (Nat.le_refl _) (by simp; omega)); have Ho4 := Lib.hid ho'; rw [hnl] at Ho4; clear ho' hgr hg' hlt')
            go_roundw
            case rel => exact ⟨m + 1, by go_num, by omega, by rw [Hn.out], Hb4.out, by rw [Hn.out]; exact Ho4.out⟩
            case measure => simp [intOf]; omega
        · have hval := nm_val (both Q) q t htq
          obtain ⟨z, hz⟩ : ∃ z, z = gi (nm (both Q) q).1 t := ⟨_, rfl⟩
          rw [← hz] at hval hnm ⊢
          clear hz
          have hz0 : ¬ (z < 0) := by omega
          clear hval
          rcases Decidable.em ((m : Int) < (q : Int)) with hmz | hmz
          all_goals
            go_wp2_with (at_builtin; refine wpList_pushI rfl (.tmp 49) (.tmp 51) rfl w.heap.size (.slice A1 q c1) (nm (both Q) q).1 rfl (Ho3.out.alloc _) wr.heap.size 1 z rfl ((Blk.new _ _ _).cell 0) (by rw [hnl]; omega) (by simp; omega) (wr.heap.size + 1) (by simp) ?_; intro g' cap w4 ho' hgr hg' hlt'; have Hb4 := Lib.hid ((Ho3.out.alloc (.cells #[I z] 2)).bel (Hbw.out.alloc (by omega) _) hgr (Nat.le_refl _) (by simp; omega)); have Ho4 := Lib.hid ho'; rw [hnl] at Ho4; clear ho' hgr hg' hlt')
            refine ⟨⟨q + 1, by go_num, by omega, by rw [hnm.out], Hb4.out, by rw [hnm.out]; exact Ho4.out⟩, by simp [intOf]; omega⟩
    · obtain rfl : q = N := by omega
      have hqz : ¬ ((q : Int) < (q : Int)) := by omega
      clear hnb
      go_wp2_with fail
      go_ret
      exact ⟨_, rfl, Ho1.out, Hb.out⟩
end Go.Proofs.Ytneonacdjmfaoaa
