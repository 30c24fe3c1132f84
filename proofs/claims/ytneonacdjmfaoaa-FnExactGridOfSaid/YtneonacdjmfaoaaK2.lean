/- Contract of the count of different numbers among those of the places with a property; at most 300 places. -/
import Derived.Test.YtneonacdjmfaoaaK1
import Derived.Test.YtneonacdjmfaoaaNB
import Derived.Test.YtneonacdjmfaoaaL1
namespace Go.Proofs.Ytneonacdjmfaoaa
open Go.RowKit
set_option maxRecDepth 100000
set_option linter.unusedSimpArgs false
set_option linter.unusedVariables false

def dfl (p : Nat → Bool) (zs : List Int) (k : Nat) : List Int := dst [] (((List.range k).filter p).map (gi zs))
theorem dfl_step (p : Nat → Bool) (zs : List Int) (k : Nat) : dfl p zs (k + 1) = dst (dfl p zs k) (if p k then [gi zs k] else []) := by
  unfold dfl
  rw [List.range_succ, List.filter_append, List.map_append, dst_app]
  cases h : p k <;> simp [h]
theorem dfl_off {p : Nat → Bool} {zs : List Int} {k : Nat} (h : p k = false) : dfl p zs (k + 1) = dfl p zs k := by rw [dfl_step, h]; rfl
theorem dfl_old {p : Nat → Bool} {zs : List Int} {k : Nat} (hm : gi zs k ∈ dfl p zs k) : dfl p zs (k + 1) = dfl p zs k := by
  rw [dfl_step]
  cases p k
  · rfl
  · simp only [if_true, dst, if_pos hm]
theorem dfl_new {p : Nat → Bool} {zs : List Int} {k : Nat} (h : p k = true) (hm : gi zs k ∉ dfl p zs k) : dfl p zs (k + 1) = dfl p zs k ++ [gi zs k] := by
  rw [dfl_step, h]
  simp only [if_true, dst, if_neg hm]
theorem dfl_len (p : Nat → Bool) (zs : List Int) (k : Nat) : (dfl p zs k).length ≤ k := by
  have h := @dst_len [] (((List.range k).filter p).map (gi zs))
  have h2 := List.length_filter_le p (List.range k)
  simp at h h2
  unfold dfl
  omega

theorem different_any (fn : Nat) (caps : Array Value) (p : Nat → Bool) (A : Option Addr) (n c : Nat) (zs : List Int) (w : World) (hx : RdI w w.heap.size A zs) (hn : zs.length = n) (hb : n ≤ 300) (hc : PredC fn caps n p w) :
    Calls Try.prog 66 #[.slice A n c, .func (.func fn) #[] caps] w fun e w' => e = .returned (I (dfl p zs n).length) ∧ Below w.heap.size w w' := by
  obtain ⟨eg, hc⟩ := hc
  have Hx := Lib.hid hx
  have Hn := Lib.hid hn
  have Hc := Lib.hid hc
  clear hx hn hc
  go_enter Try.func66, Try.ntmps66
  go_wp2_with fail
  go_loopw [10, 5] (fun i v wr => ∃ r : Nat, i = .int .i64 r ∧ r ≤ n ∧ Below w.heap.size w wr ∧ OwI 2 wr w.heap.size v (dfl p zs r)) (fun i _ _ => n - (intOf i).toNat)
  case atStart => exact ⟨0, rfl, by omega, Below.refl _ _, OwI.nil_⟩
  case round =>
    obtain ⟨r, rfl, hr, hb', ho⟩ := hrel
    have hdl := dfl_len p zs r
    obtain ⟨Av, cv, hv, _⟩ := ho.form
    subst hv
    have Hb := Lib.hid hb'
    have Ho := Lib.hid ho
    have hsz := hb'.size
    clear hb' ho
    by_cases hrn : r < n
    · have hrz : (r : Int) < (n : Int) := by omega
      obtain ⟨b, off, rfl, hbb, c1⟩ := RdI.at_ (Hx.out.below Hb.out) (k := r) (by rw [Hn.out]; exact hrn)
      go_wp2_with fail
      refine (Hc.out _ Hb.out r hrn).mono ?_
      rintro e w2 ⟨rfl, hb2⟩
      have Hb2 := Lib.hid (Hb.out.trans (hb2.mono hsz))
      have Ho2 := Lib.hid (Ho.out.below hb2 (Nat.le_refl _))
      have hs2 := hb2.size
      clear hb2 Ho Hb c1
      cases hpr : p r
      · have HE : Hid (dfl p zs (r + 1) = dfl p zs r) := dfl_off hpr
        clear hpr
        go_wp2_with fail
        go_roundw
        case rel => exact ⟨r + 1, by go_num, by omega, Hb2.out, by rw [HE.out]; exact Ho2.out⟩
        case measure => simp [intOf]; omega
      · go_wp2_with fail
        refine (contains_any Av (dfl p zs r).length cv (dfl p zs r) (gi zs r) w2 Ho2.out.rdB rfl (by omega)).mono ?_
        rintro e w3 ⟨rfl, rfl⟩
        by_cases hin : gi zs r ∈ dfl p zs r
        · have HE : Hid (dfl p zs (r + 1) = dfl p zs r) := dfl_old hin
          rw [decide_eq_true hin]
          clear hpr hin
          go_wp2_with fail
          go_roundw
          case rel => exact ⟨r + 1, by go_num, by omega, Hb2.out, by rw [HE.out]; exact Ho2.out⟩
          case measure => simp [intOf]; omega
        · have HE : Hid (dfl p zs (r + 1) = dfl p zs r ++ [gi zs r]) := dfl_new hpr hin
          rw [decide_eq_false hin]
          clear hpr hin
          go_wp2_with (at_builtin; refine wpList_pushI rfl (.tmp 24) (.tmp 26) rfl w.heap.size (.slice Av (dfl p zs r).length cv) (dfl p zs r) rfl (Ho2.out.alloc _) w2.heap.size 1 (gi zs r) rfl ((Blk.new _ _ _).cell 0) (by omega) (by simp; omega) (w2.heap.size + 1) (by simp) ?_; intro g' cap w4 ho' hgr hg' hlt'; have Hb4 := Lib.hid ((Ho2.out.alloc (.cells #[I (gi zs r)] 2)).bel (Hb2.out.alloc (by omega) _) hgr (Nat.le_refl _) (by simp; omega)); have Ho4 := Lib.hid ho'; clear ho' hgr hg' hlt')
          go_roundw
          case rel => exact ⟨r + 1, by go_num, by omega, Hb4.out, by rw [HE.out]; exact Ho4.out⟩
          case measure => simp [intOf]; omega
    · obtain rfl : r = n := by omega
      have hrz : ¬ ((r : Int) < (r : Int)) := by omega
      go_wp2_with fail
      go_ret
      exact ⟨rfl, Hb.out⟩
end Go.Proofs.Ytneonacdjmfaoaa
