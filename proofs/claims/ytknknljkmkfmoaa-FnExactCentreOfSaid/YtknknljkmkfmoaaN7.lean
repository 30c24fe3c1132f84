/- The contracts of all, any and only of a monoid, for a predicate that its closure computes; the monoid stands as the theorems say. -/
import Derived.Test.YtknknljkmkfmoaaN6
namespace Go.Proofs.Ytknknljkmkfmoaa
open Go.RowKit
set_option maxRecDepth 100000

/-- the closure of fn and caps computes the predicate p on the places of a monoid, from the world w on -/
def PredC (fn : Nat) (caps : Array Value) (N : Nat) (p : Nat → Bool) (w : World) : Prop :=
  (∀ args w, (callFunc fn args).run Try.prog w = .ok (.enter fn args) w) ∧
  ∀ w', Below w.heap.size w w' → ∀ i, i < N → Calls Try.prog fn (#[I i] ++ caps) w' fun e w'' => e = .returned (.bool (p i)) ∧ Below w'.heap.size w' w''

theorem all_any {n : Int} {B g : Nat} {E : List M} {us : List (List Int)} (fn : Nat) (caps : Array Value) (p : Nat → Bool) (w : World) (h : MonAt n B g E us w) (hE : E.length ≤ 300) (hpos : 0 < E.length) (hc : PredC fn caps E.length p w) :
    Calls Try.prog 84 #[.pointer (some ⟨g, 0, none⟩), .func (.func fn) #[] caps] w fun e w' => e = .returned (.bool ((List.range E.length).all p)) ∧ Below w.heap.size w w' := by
  obtain ⟨eg, hc⟩ := hc
  obtain ⟨_, ev, wv, pl, vs, hM, hP, hO, _⟩ := h
  obtain ⟨gE, cE, rfl⟩ := hO.some_ (by omega)
  have c0 := hM.c0
  have Hc := Lib.hid hc
  clear hM hP hO hc
  go_enter Try.func84, Try.ntmps84
  go_wp2_with fail
  go_loopw [11] (fun i wr => ∃ r : Nat, i = .int .i64 r ∧ r ≤ E.length ∧ Below w.heap.size w wr ∧ (List.range r).all p = true) (fun i _ => E.length - (intOf i).toNat)
  case atStart => exact ⟨0, rfl, by omega, Below.refl _ _, rfl⟩
  case round =>
    obtain ⟨r, rfl, hr, hb, hp⟩ := hrel
    have Hb := Lib.hid hb
    have Hp := Lib.hid hp
    clear hb hp
    by_cases hrl : r < E.length
    · have hrE : (r : Int) < (E.length : Int) := by omega
      go_wp2_with fail
      refine (Hc.out _ Hb.out r hrl).mono ?_
      rintro e w2 ⟨rfl, hb2⟩
      have Hb2 := Lib.hid (Hb.out.trans (hb2.mono Hb.out.size))
      have hs : (List.range (r + 1)).all p = p r := by rw [List.range_succ, List.all_append, Hp.out]; simp
      clear hb2
      cases hpr : p r
      · have hall : (List.range E.length).all p = false := by
          rw [Bool.eq_false_iff, ne_eq, List.all_eq_true]
          intro h
          rw [h r (List.mem_range.2 hrl)] at hpr
          cases hpr
        go_wp2
        go_ret
        exact ⟨by rw [hall]; rfl, Hb2.out⟩
      · rw [hpr] at hs
        have Hs := Lib.hid hs
        clear hs
        go_wp2
        go_roundw
        case rel => exact ⟨r + 1, by go_num, by omega, Hb2.out, Hs.out⟩
        case measure => simp [intOf]; omega
    · obtain rfl : r = E.length := by omega
      have hrl' : ¬ ((E.length : Int) < (E.length : Int)) := by omega
      go_wp2
      go_ret
      exact ⟨by rw [Hp.out]; rfl, Hb.out⟩

theorem PredC.below {fn : Nat} {caps : Array Value} {N : Nat} {p : Nat → Bool} {w w' : World} (h : PredC fn caps N p w) (hb : Below w.heap.size w w') : PredC fn caps N p w' :=
  ⟨h.1, fun w2 hb2 i hi => h.2 w2 (hb.trans (hb2.mono hb.size)) i hi⟩

theorem only_any {n : Int} {B g : Nat} {E : List M} {us : List (List Int)} (fn : Nat) (caps : Array Value) (p : Nat → Bool) (w : World) (h : MonAt n B g E us w) (hE : E.length ≤ 300) (hpos : 0 < E.length) (hc : PredC fn caps E.length p w) :
    Calls Try.prog 122 #[.pointer (some ⟨g, 0, none⟩), .func (.func fn) #[] caps] w fun e w' => ∃ v, e = .returned v ∧ OwM 31 w' w.heap.size v (((List.range E.length).filter p).map (gm E)) ∧ Below w.heap.size w w' := by
  obtain ⟨eg, hc⟩ := hc
  have H := Lib.hid h
  obtain ⟨_, ev, wv, pl, vs, hM, hP, hO, _⟩ := h
  obtain ⟨gE, cE, rfl⟩ := hO.some_ (by omega)
  have c0 := hM.c0
  have Hc := Lib.hid hc
  have HO := Lib.hid hO
  clear hM hP hO hc
  go_enter Try.func122, Try.ntmps122
  go_wp2_with fail
  go_loopw [13, 5] (fun i v wr => ∃ r : Nat, i = .int .i64 r ∧ r ≤ E.length ∧ Below w.heap.size w wr ∧ OwM 31 wr w.heap.size v (((List.range r).filter p).map (gm E))) (fun i _ _ => E.length - (intOf i).toNat)
  case atStart => exact ⟨0, rfl, by omega, Below.refl _ _, OwM.nil_⟩
  case round =>
    obtain ⟨r, rfl, hr, hb, ho⟩ := hrel
    by_cases hrl : r < E.length
    · have hrE : (r : Int) < (E.length : Int) := by omega
      obtain ⟨f, hf⟩ : ∃ f, f = gm E r := ⟨_, rfl⟩
      have s0 : SixAt wr gE (r * 6) f := by
        have h6 := RdM.at_ (HO.out.below hb (Nat.le_refl _)).rd (k := r) hrl
        obtain ⟨b', off', e, _, h6⟩ := h6
        injection e with e
        injection e with e1 e2 _
        subst e1 e2
        rw [Nat.zero_add, ← hf] at h6
        exact h6
      have Hb := Lib.hid hb
      have Ho := Lib.hid ho
      have Hf := Lib.hid hf
      have hsz := hb.size
      clear hb ho hf
      go_wp2_with fail
      obtain ⟨wb, hwb⟩ : ∃ wb, wb = wr.alloc (.cells (mc f) 31) := ⟨_, rfl⟩
      have H6 : Hid (Six wb wr.heap.size f) := by show Six _ _ _; rw [hwb]; exact Blk.six (Blk.new wr _ _)
      have Hob := Lib.hid (Ho.out.alloc (.cells (mc f) 31))
      have Hbb := Lib.hid (Hb.out.alloc hsz (.cells (mc f) 31))
      have hlb : wb.heap.size = wr.heap.size + 1 := by rw [hwb]; simp
      rw [← hwb] at Hob Hbb ⊢
      clear hwb s0 Ho Hb
      refine (Hc.out _ Hbb.out r hrl).mono ?_
      rintro e w2 ⟨rfl, hb2⟩
      have Hb2 := Lib.hid (Hbb.out.trans (hb2.mono Hbb.out.size))
      have Ho2 := Lib.hid (Hob.out.below hb2 (Nat.le_refl _))
      have s0 := H6.out.below hb2 (by omega)
      have hsz2 := hb2.size
      have hs : ((List.range (r + 1)).filter p).map (gm E) = ((List.range r).filter p).map (gm E) ++ (if p r then [f] else []) := by
        rw [List.range_succ, List.filter_append, List.map_append, Hf.out]
        cases hpr : p r <;> simp [hpr]
      have Hs := Lib.hid hs
      clear hb2 hs Hob Hbb H6
      cases hpr : p r
      · have hs2 := Hs.out
        rw [hpr] at hs2
        simp only [Bool.false_eq_true, if_false, List.append_nil] at hs2
        have Hs2 := Lib.hid hs2
        clear hs2 s0
        go_wp2
        go_roundw
        case rel => exact ⟨r + 1, by go_num, by omega, Hb2.out, by rw [Hs2.out]; exact Ho2.out⟩
        case measure => simp [intOf]; omega
      · have hs2 := Hs.out
        rw [hpr] at hs2
        simp only [if_true] at hs2
        have Hs2 := Lib.hid hs2
        obtain ⟨Lr, hL⟩ : ∃ Lr, Lr = ((List.range r).filter p).map (gm E) := ⟨_, rfl⟩
        rw [← hL] at Ho2 Hs2
        have hN : Lr.length ≤ 300 := by
          rw [hL, List.length_map]
          have := List.length_filter_le p (List.range r)
          rw [List.length_range] at this
          omega
        obtain ⟨A, cA, hv, _⟩ := Ho2.out.form
        subst hv
        obtain ⟨N, hNN⟩ : ∃ N, Lr.length = N := ⟨_, rfl⟩
        rw [hNN] at Ho2 hN ⊢
        have HN := Lib.hid hNN
        have hsw : w.heap.size ≤ w2.heap.size := by omega
        clear hs2 hL hNN
        go_wp2_with (at_builtin; refine wpList_pushM rfl (.tmp 21) (.tmp 23) rfl w.heap.size (.slice A N cA) Lr rfl (Ho2.out.alloc _) N HN.out w2.heap.size 1 f rfl (Blk.six (Blk.new _ _ _)) (by omega) (by simp; omega) (w2.heap.size + 1) (by simp) ?_; intro g' cap w4 ho' hgr hg' hlt')
        have Hb4 := Lib.hid (((Ho2.out.alloc _).bel (Hb2.out.alloc hsw _) hgr (Nat.le_refl _) (by simp; omega)))
        have Ho4 := Lib.hid ho'
        clear ho' hgr hg' hlt'
        go_wp2
        go_roundw
        case rel => exact ⟨r + 1, by go_num, by omega, Hb4.out, by rw [Hs2.out]; exact Ho4.out⟩
        case measure => simp [intOf]; omega
    · obtain rfl : r = E.length := by omega
      have hrl' : ¬ ((E.length : Int) < (E.length : Int)) := by omega
      have Hb := Lib.hid hb
      have Ho := Lib.hid ho
      clear hb ho
      go_wp2
      go_ret
      exact ⟨_, rfl, Ho.out, Hb.out⟩
end Go.Proofs.Ytknknljkmkfmoaa
