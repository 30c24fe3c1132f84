/- The contract of spec.l02Elements; the lists are as the theorem states. -/
import Derived.Test.YtknknljkmkfmoaaN13
import Derived.Test.YtknknljkmkfmoaaN8
namespace Go.Proofs.Ytknknljkmkfmoaa
open Go.RowKit
set_option maxRecDepth 100000
set_option linter.unusedSimpArgs false

/-- the elements, or none -/
def elR (ms xs : List M) : List M := if codeL ms xs = 0 then (match clo ms (gm ms 0).p with | none => [] | some ps => eltM ps) else []
def elC (ms xs : List M) : Int := if codeL ms xs = 0 then (if (clo ms (gm ms 0).p).isSome then 0 else 3) else codeL ms xs
theorem elC_code {ms xs : List M} (h : codeL ms xs ≠ 0) : elC ms xs = codeL ms xs := if_neg h
theorem elR_code {ms xs : List M} (h : codeL ms xs ≠ 0) : elR ms xs = [] := if_neg h
theorem elC_none {ms xs : List M} (h : codeL ms xs = 0) (hc : clo ms (gm ms 0).p = none) : elC ms xs = 3 := by simp [elC, h, hc]
theorem elR_none {ms xs : List M} (h : codeL ms xs = 0) (hc : clo ms (gm ms 0).p = none) : elR ms xs = [] := by simp [elR, h, hc]
theorem elC_some {ms xs : List M} {ps : Met} (h : codeL ms xs = 0) (hc : clo ms (gm ms 0).p = some ps) : elC ms xs = 0 := by simp [elC, h, hc]
theorem elR_some {ms xs : List M} {ps : Met} (h : codeL ms xs = 0) (hc : clo ms (gm ms 0).p = some ps) : elR ms xs = eltM ps := by simp [elR, h, hc]
/-- what holds where there are elements -/
structure El (ms xs E : List M) (ps : Met) : Prop where
  code : codeL ms xs = 0
  clo : clo ms (gm ms 0).p = some ps
  eq : E = eltM ps
  r : elR ms xs = E
  p1 : 1 ≤ (gm ms 0).p
  p5 : (gm ms 0).p ≤ 5
  G : Pts (gm ms 0).p ms
  X : Pts (gm ms 0).p xs
  n1 : 1 ≤ ms.length
  n6 : ms.length ≤ 6
  mnd : Mnd (gm ms 0).p E
  mem : ∀ x, x ∈ E ↔ Mon ms (gm ms 0).p x
  len : E.length ≤ 300
  pos : 0 < E.length
theorem elC_el {ms xs : List M} (h : elC ms xs = 0) : ∃ E ps, El ms xs E ps := by
  by_cases hc : codeL ms xs = 0
  · obtain ⟨q1, q2, q3, q4, q5, q6⟩ := codeL_pts' hc
    cases hk : clo ms (gm ms 0).p with
    | none => rw [elC_none hc hk] at h; cases h
    | some ps =>
      have hm := clo_mnd q1 q2 q3 hk
      exact ⟨_, ps, hc, hk, rfl, elR_some hc hk, q1, q2, q3, q4, q5, q6, hm, fun x => by rw [sortM_mem, clo_mem hk], by rw [sortM_length (clo_good hk).1.nd, List.length_map]; exact (clo_good hk).1.len, hm.pos⟩
  · rw [elC_code hc] at h; exact absurd h hc
theorem elC_mon {ms xs : List M} (h : elC ms xs ≠ 0) : monC ms xs = elC ms xs := by
  by_cases hc : codeL ms xs = 0
  · cases hk : clo ms (gm ms 0).p with
    | none => rw [monC_none hc hk, elC_none hc hk]
    | some ps => exact absurd (elC_some hc hk) h
  · rw [monC_code hc, elC_code hc]
theorem El.mon {ms xs E : List M} {ps : Met} (h : El ms xs E ps) : monC ms xs = if xs.all (fun f => decide (f ∈ E)) then 0 else 4 := by
  unfold monC
  rw [if_pos h.code, h.clo, h.eq]
theorem El.mon0 {ms xs E : List M} {ps : Met} (h : El ms xs E ps) (hx : ∀ f ∈ xs, f ∈ E) : monC ms xs = 0 := by
  rw [h.mon, if_pos (by rw [List.all_eq_true]; exact fun f hf => decide_eq_true (hx f hf))]
theorem elR_bad {ms xs : List M} (h : elC ms xs ≠ 0) : elR ms xs = [] := by
  by_cases hc : codeL ms xs = 0
  · cases hk : clo ms (gm ms 0).p with
    | none => exact elR_none hc hk
    | some ps => exact absurd (elC_some hc hk) h
  · exact elR_code hc

/-- a list of maps to be read, and a code -/
def RetS (res : List M) (code : Int) (w : World) (e : Ending) (w' : World) : Prop := ∃ A c, e = .returned (.tuple #[.slice A res.length c, I code]) ∧ RdM w' w'.heap.size A res ∧ Below w.heap.size w w'
theorem RetS.mk {res : List M} {code : Int} {w w' : World} {e : Ending} (A : Option Addr) (c : Nat) (h : e = .returned (.tuple #[.slice A res.length c, I code])) (hr : RdM w' w'.heap.size A res) (hb : Below w.heap.size w w') : RetS res code w e w' := ⟨A, c, h, hr, hb⟩
/-- a list of maps of its own, and a code -/
def RetM (res : List M) (code : Int) (w : World) (e : Ending) (w' : World) : Prop := ∃ v, e = .returned (.tuple #[v, I code]) ∧ OwM 31 w' w.heap.size v res ∧ Below w.heap.size w w'
theorem RetM.mk {res : List M} {code : Int} {w w' : World} {e : Ending} (v : Value) (h : e = .returned (.tuple #[v, I code])) (hr : OwM 31 w' w.heap.size v res) (hb : Below w.heap.size w w') : RetM res code w e w' := ⟨v, h, hr, hb⟩
theorem RetM.toS {res : List M} {code : Int} {w w' : World} {e : Ending} (h : RetM res code w e w') : RetS res code w e w' := by
  obtain ⟨v, rfl, ho, hb⟩ := h
  obtain ⟨A, c, rfl, hr⟩ := ho.form
  exact ⟨A, c, rfl, hr, hb⟩
/-- a list of numbers to be read, and a code -/
def RetSI (res : List Int) (code : Int) (w : World) (e : Ending) (w' : World) : Prop := ∃ A c, e = .returned (.tuple #[.slice A res.length c, I code]) ∧ RdI w' w'.heap.size A res ∧ Below w.heap.size w w'
theorem RetSI.mk {res : List Int} {code : Int} {w w' : World} {e : Ending} (A : Option Addr) (c : Nat) (h : e = .returned (.tuple #[.slice A res.length c, I code])) (hr : RdI w' w'.heap.size A res) (hb : Below w.heap.size w w') : RetSI res code w e w' := ⟨A, c, h, hr, hb⟩
/-- a list of numbers of its own, and a code -/
def RetI (res : List Int) (code : Int) (w : World) (e : Ending) (w' : World) : Prop := ∃ v, e = .returned (.tuple #[v, I code]) ∧ OwI 2 w' w.heap.size v res ∧ Below w.heap.size w w'
theorem RetI.mk {res : List Int} {code : Int} {w w' : World} {e : Ending} (v : Value) (h : e = .returned (.tuple #[v, I code])) (hr : OwI 2 w' w.heap.size v res) (hb : Below w.heap.size w w') : RetI res code w e w' := ⟨v, h, hr, hb⟩
theorem RetI.toS {res : List Int} {code : Int} {w w' : World} {e : Ending} (h : RetI res code w e w') : RetSI res code w e w' := by
  obtain ⟨v, rfl, ho, hb⟩ := h
  obtain ⟨A, c, rfl, hr⟩ := ho.form
  exact ⟨A, c, rfl, hr, hb⟩

theorem l02Elements_any (A1 A2 : Option Addr) (n1 c1 n2 c2 : Nat) (ms xs : List M) (w : World) (hx : RdM w w.heap.size A1 ms) (hy : RdM w w.heap.size A2 xs) (hn : ms.length = n1) (hm : xs.length = n2)
    (hb : n1 < 1073741824) (hb2 : n2 < 1073741824) :
    Calls Try.prog 79 #[.slice A1 n1 c1, .slice A2 n2 c2] w (RetS (elR ms xs) (elC ms xs) w) := by
  have Hx := Lib.hid hx
  have Hy := Lib.hid hy
  have Hn := Lib.hid hn
  have Hm := Lib.hid hm
  clear hx hy hn hm
  go_enter Try.func79, Try.ntmps79
  go_wp2_with fail
  refine (l02Given_any A1 A2 n1 c1 n2 c2 ms xs _ Hx.out Hy.out Hn.out Hm.out hb hb2).mono ?_
  rintro e w1 ⟨rfl, hb1⟩
  by_cases hc : codeL ms xs = 0
  · obtain ⟨q1, q2, q3, q4, q5, q6⟩ := codeL_pts' hc
    have Hc := Lib.hid hc
    have H3 := Lib.hid q3
    have Hb1 := Lib.hid hb1
    rw [hc]
    have hx1 := Rd.below Hx.out hb1
    obtain ⟨b, off, rfl, hbb, x0, x1, x2, x3, x4, x5⟩ := RdM.at_ hx1 (k := 0) (by omega)
    rw [Nat.zero_mul, Nat.add_zero] at x0
    have hl1 : 0 < n1 := by have := Hn.out; omega
    have hz1 := Hb1.out.size
    clear hc q3 q4 hb1 hx1 x1 x2 x3 x4 x5
    go_wp2_with fail
    refine (l02Closed_any (some ⟨b, off, none⟩) n1 c1 ms (gm ms 0).p w1 (Rd.more (Rd.below Hx.out Hb1.out) Hb1.out.size) Hn.out (by omega) q1 q2 H3.out).mono ?_
    rintro e w2 ⟨v1, v2, rfl, hb2', hsome⟩
    have Hb2 := Lib.hid (Hb1.out.trans (hb2'.mono Hb1.out.size))
    have hz2 := hb2'.size
    clear x0
    cases hclo : clo ms (gm ms 0).p with
    | none =>
      have Hr := Lib.hid (elR_none Hc.out hclo)
      have Hmc := Lib.hid (elC_none Hc.out hclo)
      rw [show (none : Option Met).isSome = false from rfl]
      clear hsome hb2' hclo
      go_wp2
      go_ret2
      exact .mk none 0 (by rw [Hmc.out, Hr.out] <;> rfl) (by rw [Hr.out]; exact Rd.nil_) Hb2.out
    | some ps =>
      have Hr := Lib.hid (elR_some Hc.out hclo)
      have Hmc := Lib.hid (elC_some Hc.out hclo)
      obtain ⟨hO, _⟩ := hsome ps hclo
      have hgd := (clo_good hclo).1
      have hlen := hgd.len
      have HPv : Hid (∀ x ∈ ps.map (·.1), Valid x) := fun x hx => by
        obtain ⟨q, hq, rfl⟩ := List.mem_map.1 hx
        exact ((hgd.mon q hq).ok q1 q2 H3.out).1
      have Hnd := Lib.hid hgd.nd
      obtain ⟨P, hP⟩ : ∃ P, P = ps.map (·.1) := ⟨_, rfl⟩
      have HP := Lib.hid hP
      obtain ⟨N, hN⟩ : ∃ N, N = ps.length := ⟨_, rfl⟩
      have HN : Hid (P.length = N) := by show _ = _; rw [hP, hN, List.length_map]
      rw [← hP] at hO HPv Hnd
      rw [← hN] at hlen
      obtain ⟨A3, c3, e3, hr3⟩ := hO.form
      rw [HN.out] at e3
      subst e3
      have HO := Lib.hid hr3
      rw [show (some ps : Option Met).isSome = true from rfl]
      clear hsome hb2' hclo hO hr3 hgd hP hN
      go_wp2_with fail
      go_loopw [10, 11] (fun v i wr => ∃ (r : Nat) (A : Addr) (c : Nat), i = .int .i64 r ∧ r ≤ N ∧ v = .slice (some A) (sortM (P.take r)).length c ∧ (sortM (P.take r)).length ≤ c ∧ RdM wr wr.heap.size (some A) (sortM (P.take r)) ∧ Below w2.heap.size w2 wr) (fun _ i _ => N - (intOf i).toNat)
      case atStart =>
        refine ⟨0, ⟨w2.heap.size, 0, none⟩, 0, rfl, by omega, rfl, Nat.le_refl _, Rd.nil_, (Below.refl _ _).alloc (Nat.le_refl _) _⟩
      case round =>
        obtain ⟨r, A, c, rfl, hr, rfl, hc, hR, hb⟩ := hrel
        have HR := Lib.hid hR
        have Hb := Lib.hid hb
        have Hcc := Lib.hid hc
        have hz := hb.size
        have hsl : (sortM (P.take r)).length = r := by
          rw [sortM_length (Hnd.out.sublist (List.take_sublist _ _)), List.length_take, HN.out]; omega
        have Hsl := Lib.hid hsl
        rw [hsl]
        clear hR hb hc hsl
        by_cases hrl : r < N
        · have hrE : (r : Int) < (N : Int) := by omega
          obtain ⟨b2, off2, rfl, hbb2, h6⟩ := RdM.at_ (Rd.below HO.out Hb.out) (k := r) (by rw [HN.out]; exact hrl)
          obtain ⟨f, hf⟩ : ∃ f, f = gm P r := ⟨_, rfl⟩
          rw [← hf] at h6
          have hvf : Valid f := HPv.out f (by rw [hf]; exact gm_mem (by rw [HN.out]; exact hrl))
          have htk : P.take (r + 1) = P.take r ++ [f] := by rw [List.take_add_one, hf, gm_eq (by rw [HN.out]; exact hrl), List.getElem?_eq_getElem (by rw [HN.out]; exact hrl)]; rfl
          have HEv : Hid (∀ x ∈ sortM (P.take r), Valid x) := fun x hx => HPv.out x (List.mem_of_mem_take (sortM_mem.1 hx))
          have hins : insM f (sortM (P.take r)) = sortM (P.take (r + 1)) := by rw [htk, sortM_snoc]
          have hsl2 : (sortM (P.take (r + 1))).length = r + 1 := by
            rw [sortM_length (Hnd.out.sublist (List.take_sublist _ _)), List.length_take, HN.out]; omega
          have Hins := Lib.hid hins
          have Hsl2 := Lib.hid hsl2
          obtain ⟨x0, x1, x2, x3, x4, x5⟩ := h6
          clear hf htk hins hsl2
          go_wp2_with fail
          refine (l01Put_any A r c (sortM (P.take r)) f _ HR.out Hsl.out (by have := Hcc.out; have := Hsl.out; omega) (by omega) (sortM_asc _) HEv.out hvf).mono ?_
          rintro e w4 ⟨A', c', rfl, hc', hr', _, hb'⟩
          rw [Hins.out] at hc' hr' ⊢
          have Hr' := Lib.hid hr'
          have Hc' := Lib.hid hc'
          have Hb' := Lib.hid (Hb.out.trans (hb'.mono hz))
          clear hc' hr' hb' x0 x1 x2 x3 x4 x5
          go_wp2
          go_roundw
          case rel => exact ⟨r + 1, A', c', by go_num, by omega, rfl, Hc'.out, Hr'.out, Hb'.out⟩
          case measure => simp [intOf]; omega
        · obtain rfl : r = N := by omega
          have hrl' : ¬ ((r : Int) < (r : Int)) := by omega
          have htk : P.take r = P := List.take_of_length_le (by rw [HN.out]; exact Nat.le_refl _)
          rw [htk] at HR Hsl
          have HE : Hid (elR ms xs = sortM P) := by show _ = _; rw [Hr.out, HP.out]
          have Hbe := Lib.hid (Hb2.out.trans (Hb.out.mono Hb2.out.size))
          clear htk
          go_wp2
          go_ret2
          exact .mk (some A) c (by rw [Hmc.out, HE.out, Hsl.out] <;> rfl) (by rw [HE.out]; exact HR.out) Hbe.out
  · have Hr := Lib.hid (elR_code hc)
    have Hmc := Lib.hid (elC_code hc)
    go_wp2
    go_ret2
    exact .mk none 0 (by rw [Hmc.out, Hr.out] <;> rfl) (by rw [Hr.out]; exact Rd.nil_) hb1
end Go.Proofs.Ytknknljkmkfmoaa
