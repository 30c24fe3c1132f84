/- The contract of spec.l02Elements; the lists are as the theorem states. Contracts of the marks on lists of maps; no conditions beyond those that each theorem states. What stands while a statement is walked: its arguments, the reference's result, the program's argument and result; ends of regions whose last call hands its value on; no conditions beyond those that each theorem states. Contracts of ElementsOf, SizeOf, IsElement and WordFor of both sides; the lists are as each theorem states. -/
import Derived.Test.YtkbfocoaobiijaaGreatN13
import Derived.Test.YtkbfocoaobiijaaGreatN8
namespace Go.Proofs.YtkbfocoaobiijaaGreat
open Go.RowKit
set_option maxRecDepth 100000
set_option linter.unusedSimpArgs false

/-- the elements, or none -/
def elR (ms xs : List M) : List M := if codeL ms xs = 0 then (match clo ms (gm ms 0).p with | none => [] | some ps => eltM ps) else []
def elC (ms xs : List M) : Int := if codeL ms xs = 0 then (if (clo ms (gm ms 0).p).isSome then 0 else 3) else codeL ms xs
theorem elC_code {ms xs : List M} (h : codeL ms xs ≠ 0) : elC ms xs = codeL ms xs := if_neg h
theorem elR_code {ms xs : List M} (h : codeL ms xs ≠ 0) : elR ms xs = [] := if_neg h
theorem elC_none {ms xs : List M} (h : codeL ms xs = 0) (hc : clo ms (gm ms 0).p = none) : elC ms xs = 3 := by simp [elC, h, hc]
theorem elR_none {ms xs : List M} (h : codeL ms xs = 0) (hc : clo ms (gm ms 0).p = none) : elR ms xs = [] := by simp [elR, h, hc]
theorem elC_some {ms xs : List M} {ps : Met} (h : codeL ms xs = 0) (hc : clo ms (gm ms 0).p = some ps) : elC ms xs = 0 := by simp [elC, h, hc]
theorem elR_some {ms xs : List M} {ps : Met} (h : codeL ms xs = 0) (hc : clo ms (gm ms 0).p = some ps) : elR ms xs = eltM ps := by simp [elR, h, hc]
/-- what holds where there are elements -/
structure El (ms xs E : List M) (ps : Met) : Prop where
  code : codeL ms xs = 0
  clo : clo ms (gm ms 0).p = some ps
  eq : E = eltM ps
  r : elR ms xs = E
  p1 : 1 ≤ (gm ms 0).p
  p5 : (gm ms 0).p ≤ 5
  G : Pts (gm ms 0).p ms
  X : Pts (gm ms 0).p xs
  n1 : 1 ≤ ms.length
  n6 : ms.length ≤ 6
  mnd : Mnd (gm ms 0).p E
  mem : ∀ x, x ∈ E ↔ Mon ms (gm ms 0).p x
  len : E.length ≤ 300
  pos : 0 < E.length
theorem elC_el {ms xs : List M} (h : elC ms xs = 0) : ∃ E ps, El ms xs E ps := by
  by_cases hc : codeL ms xs = 0
  · obtain ⟨q1, q2, q3, q4, q5, q6⟩ := codeL_pts' hc
    cases hk : clo ms (gm ms 0).p with
    | none => rw [elC_none hc hk] at h; cases h
    | some ps =>
      have hm := clo_mnd q1 q2 q3 hk
      exact ⟨_, ps, hc, hk, rfl, elR_some hc hk, q1, q2, q3, q4, q5, q6, hm, fun x => by rw [sortM_mem, clo_mem hk], by rw [sortM_length (clo_good hk).1.nd, List.length_map]; exact (clo_good hk).1.len, hm.pos⟩
  · rw [elC_code hc] at h; exact absurd h hc
theorem elC_mon {ms xs : List M} (h : elC ms xs ≠ 0) : monC ms xs = elC ms xs := by
  by_cases hc : codeL ms xs = 0
  · cases hk : clo ms (gm ms 0).p with
    | none => rw [monC_none hc hk, elC_none hc hk]
    | some ps => exact absurd (elC_some hc hk) h
  · rw [monC_code hc, elC_code hc]
theorem El.mon {ms xs E : List M} {ps : Met} (h : El ms xs E ps) : monC ms xs = if xs.all (fun f => decide (f ∈ E)) then 0 else 4 := by
  unfold monC
  rw [if_pos h.code, h.clo, h.eq]
theorem El.mon0 {ms xs E : List M} {ps : Met} (h : El ms xs E ps) (hx : ∀ f ∈ xs, f ∈ E) : monC ms xs = 0 := by
  rw [h.mon, if_pos (by rw [List.all_eq_true]; exact fun f hf => decide_eq_true (hx f hf))]
theorem elR_bad {ms xs : List M} (h : elC ms xs ≠ 0) : elR ms xs = [] := by
  by_cases hc : codeL ms xs = 0
  · cases hk : clo ms (gm ms 0).p with
    | none => exact elR_none hc hk
    | some ps => exact absurd (elC_some hc hk) h
  · exact elR_code hc

/-- a list of maps to be read, and a code -/
def RetS (res : List M) (code : Int) (w : World) (e : Ending) (w' : World) : Prop := ∃ A c, e = .returned (.tuple #[.slice A res.length c, I code]) ∧ RdM w' w'.heap.size A res ∧ Below w.heap.size w w'
theorem RetS.mk {res : List M} {code : Int} {w w' : World} {e : Ending} (A : Option Addr) (c : Nat) (h : e = .returned (.tuple #[.slice A res.length c, I code])) (hr : RdM w' w'.heap.size A res) (hb : Below w.heap.size w w') : RetS res code w e w' := ⟨A, c, h, hr, hb⟩
/-- a list of maps of its own, and a code -/
def RetM (res : List M) (code : Int) (w : World) (e : Ending) (w' : World) : Prop := ∃ v, e = .returned (.tuple #[v, I code]) ∧ OwM 31 w' w.heap.size v res ∧ Below w.heap.size w w'
theorem RetM.mk {res : List M} {code : Int} {w w' : World} {e : Ending} (v : Value) (h : e = .returned (.tuple #[v, I code])) (hr : OwM 31 w' w.heap.size v res) (hb : Below w.heap.size w w') : RetM res code w e w' := ⟨v, h, hr, hb⟩
theorem RetM.toS {res : List M} {code : Int} {w w' : World} {e : Ending} (h : RetM res code w e w') : RetS res code w e w' := by
  obtain ⟨v, rfl, ho, hb⟩ := h
  obtain ⟨A, c, rfl, hr⟩ := ho.form
  exact ⟨A, c, rfl, hr, hb⟩
/-- a list of numbers to be read, and a code -/
def RetSI (res : List Int) (code : Int) (w : World) (e : Ending) (w' : World) : Prop := ∃ A c, e = .returned (.tuple #[.slice A res.length c, I code]) ∧ RdI w' w'.heap.size A res ∧ Below w.heap.size w w'
theorem RetSI.mk {res : List Int} {code : Int} {w w' : World} {e : Ending} (A : Option Addr) (c : Nat) (h : e = .returned (.tuple #[.slice A res.length c, I code])) (hr : RdI w' w'.heap.size A res) (hb : Below w.heap.size w w') : RetSI res code w e w' := ⟨A, c, h, hr, hb⟩
/-- a list of numbers of its own, and a code -/
def RetI (res : List Int) (code : Int) (w : World) (e : Ending) (w' : World) : Prop := ∃ v, e = .returned (.tuple #[v, I code]) ∧ OwI 2 w' w.heap.size v res ∧ Below w.heap.size w w'
theorem RetI.mk {res : List Int} {code : Int} {w w' : World} {e : Ending} (v : Value) (h : e = .returned (.tuple #[v, I code])) (hr : OwI 2 w' w.heap.size v res) (hb : Below w.heap.size w w') : RetI res code w e w' := ⟨v, h, hr, hb⟩
theorem RetI.toS {res : List Int} {code : Int} {w w' : World} {e : Ending} (h : RetI res code w e w') : RetSI res code w e w' := by
  obtain ⟨v, rfl, ho, hb⟩ := h
  obtain ⟨A, c, rfl, hr⟩ := ho.form
  exact ⟨A, c, rfl, hr, hb⟩

theorem l02Elements_any (A1 A2 : Option Addr) (n1 c1 n2 c2 : Nat) (ms xs : List M) (w : World) (hx : RdM w w.heap.size A1 ms) (hy : RdM w w.heap.size A2 xs) (hn : ms.length = n1) (hm : xs.length = n2)
    (hb : n1 < 1073741824) (hb2 : n2 < 1073741824) :
    Calls Tryz.prog 117 #[.slice A1 n1 c1, .slice A2 n2 c2] w (RetS (elR ms xs) (elC ms xs) w) := by
  have Hx := Lib.hid hx
  have Hy := Lib.hid hy
  have Hn := Lib.hid hn
  have Hm := Lib.hid hm
  clear hx hy hn hm
  go_enter Tryz.func117, Tryz.ntmps117
  go_wp2_with fail
  refine (l02Given_any A1 A2 n1 c1 n2 c2 ms xs _ Hx.out Hy.out Hn.out Hm.out hb hb2).mono ?_
  rintro e w1 ⟨rfl, hb1⟩
  by_cases hc : codeL ms xs = 0
  · obtain ⟨q1, q2, q3, q4, q5, q6⟩ := codeL_pts' hc
    have Hc := Lib.hid hc
    have H3 := Lib.hid q3
    have Hb1 := Lib.hid hb1
    rw [hc]
    have hx1 := Rd.below Hx.out hb1
    obtain ⟨b, off, rfl, hbb, x0, x1, x2, x3, x4, x5⟩ := RdM.at_ hx1 (k := 0) (by omega)
    rw [Nat.zero_mul, Nat.add_zero] at x0
    have hl1 : 0 < n1 := by have := Hn.out; omega
    have hz1 := Hb1.out.size
    clear hc q3 q4 hb1 hx1 x1 x2 x3 x4 x5
    go_wp2_with fail
    refine (l02Closed_any (some ⟨b, off, none⟩) n1 c1 ms (gm ms 0).p w1 (Rd.more (Rd.below Hx.out Hb1.out) Hb1.out.size) Hn.out (by omega) q1 q2 H3.out).mono ?_
    rintro e w2 ⟨v1, v2, rfl, hb2', hsome⟩
    have Hb2 := Lib.hid (Hb1.out.trans (hb2'.mono Hb1.out.size))
    have hz2 := hb2'.size
    clear x0
    cases hclo : clo ms (gm ms 0).p with
    | none =>
      have Hr := Lib.hid (elR_none Hc.out hclo)
      have Hmc := Lib.hid (elC_none Hc.out hclo)
      rw [show (none : Option Met).isSome = false from rfl]
      clear hsome hb2' hclo
      go_wp2
      go_ret2
      exact .mk none 0 (by rw [Hmc.out, Hr.out] <;> rfl) (by rw [Hr.out]; exact Rd.nil_) Hb2.out
    | some ps =>
      have Hr := Lib.hid (elR_some Hc.out hclo)
      have Hmc := Lib.hid (elC_some Hc.out hclo)
      obtain ⟨hO, _⟩ := hsome ps hclo
      have hgd := (clo_good hclo).1
      have hlen := hgd.len
      have HPv : Hid (∀ x ∈ ps.map (·.1), Valid x) := fun x hx => by
        obtain ⟨q, hq, rfl⟩ := List.mem_map.1 hx
        exact ((hgd.mon q hq).ok q1 q2 H3.out).1
      have Hnd := Lib.hid hgd.nd
      obtain ⟨P, hP⟩ : ∃ P, P = ps.map (·.1) := ⟨_, rfl⟩
      have HP := Lib.hid hP
      obtain ⟨N, hN⟩ : ∃ N, N = ps.length := ⟨_, rfl⟩
      have HN : Hid (P.length = N) := by show _ = _; rw [hP, hN, List.length_map]
      rw [← hP] at hO HPv Hnd
      rw [← hN] at hlen
      obtain ⟨A3, c3, e3, hr3⟩ := hO.form
      rw [HN.out] at e3
      subst e3
      have HO := Lib.hid hr3
      rw [show (some ps : Option Met).isSome = true from rfl]
      clear hsome hb2' hclo hO hr3 hgd hP hN
      go_wp2_with fail
      go_loopw [10, 11] (fun v i wr => ∃ (r : Nat) (A : Addr) (c : Nat), i = .int .i64 r ∧ r ≤ N ∧ v = .slice (some A) (sortM (P.take r)).length c ∧ (sortM (P.take r)).length ≤ c ∧ RdM wr wr.heap.size (some A) (sortM (P.take r)) ∧ Below w2.heap.size w2 wr) (fun _ i _ => N - (intOf i).toNat)
      case atStart =>
        refine ⟨0, ⟨w2.heap.size, 0, none⟩, 0, rfl, by omega, rfl, Nat.le_refl _, Rd.nil_, (Below.refl _ _).alloc (Nat.le_refl _) _⟩
      case round =>
        obtain ⟨r, A, c, rfl, hr, rfl, hc, hR, hb⟩ := hrel
        have HR := Lib.hid hR
        have Hb := Lib.hid hb
        have Hcc := Lib.hid hc
        have hz := hb.size
        have hsl : (sortM (P.take r)).length = r := by
          rw [sortM_length (Hnd.out.sublist (List.take_sublist _ _)), List.length_take, HN.out]; omega
        have Hsl := Lib.hid hsl
        rw [hsl]
        clear hR hb hc hsl
        by_cases hrl : r < N
        · have hrE : (r : Int) < (N : Int) := by omega
          obtain ⟨b2, off2, rfl, hbb2, h6⟩ := RdM.at_ (Rd.below HO.out Hb.out) (k := r) (by rw [HN.out]; exact hrl)
          obtain ⟨f, hf⟩ : ∃ f, f = gm P r := ⟨_, rfl⟩
          rw [← hf] at h6
          have hvf : Valid f := HPv.out f (by rw [hf]; exact gm_mem (by rw [HN.out]; exact hrl))
          have htk : P.take (r + 1) = P.take r ++ [f] := by rw [List.take_add_one, hf, gm_eq (by rw [HN.out]; exact hrl), List.getElem?_eq_getElem (by rw [HN.out]; exact hrl)]; rfl
          have HEv : Hid (∀ x ∈ sortM (P.take r), Valid x) := fun x hx => HPv.out x (List.mem_of_mem_take (sortM_mem.1 hx))
          have hins : insM f (sortM (P.take r)) = sortM (P.take (r + 1)) := by rw [htk, sortM_snoc]
          have hsl2 : (sortM (P.take (r + 1))).length = r + 1 := by
            rw [sortM_length (Hnd.out.sublist (List.take_sublist _ _)), List.length_take, HN.out]; omega
          have Hins := Lib.hid hins
          have Hsl2 := Lib.hid hsl2
          obtain ⟨x0, x1, x2, x3, x4, x5⟩ := h6
          clear hf htk hins hsl2
          go_wp2_with fail
          refine (l01Put_any A r c (sortM (P.take r)) f _ HR.out Hsl.out (by have := Hcc.out; have := Hsl.out; omega) (by omega) (sortM_asc _) HEv.out hvf).mono ?_
          rintro e w4 ⟨A', c', rfl, hc', hr', _, hb'⟩
          rw [Hins.out] at hc' hr' ⊢
          have Hr' := Lib.hid hr'
          have Hc' := Lib.hid hc'
          have Hb' := Lib.hid (Hb.out.trans (hb'.mono hz))
          clear hc' hr' hb' x0 x1 x2 x3 x4 x5
          go_wp2
          go_roundw
          case rel => exact ⟨r + 1, A', c', by go_num, by omega, rfl, Hc'.out, Hr'.out, Hb'.out⟩
          case measure => simp [intOf]; omega
        · obtain rfl : r = N := by omega
          have hrl' : ¬ ((r : Int) < (r : Int)) := by omega
          have htk : P.take r = P := List.take_of_length_le (by rw [HN.out]; exact Nat.le_refl _)
          rw [htk] at HR Hsl
          have HE : Hid (elR ms xs = sortM P) := by show _ = _; rw [Hr.out, HP.out]
          have Hbe := Lib.hid (Hb2.out.trans (Hb.out.mono Hb2.out.size))
          clear htk
          go_wp2
          go_ret2
          exact .mk (some A) c (by rw [Hmc.out, HE.out, Hsl.out] <;> rfl) (by rw [HE.out]; exact HR.out) Hbe.out
  · have Hr := Lib.hid (elR_code hc)
    have Hmc := Lib.hid (elC_code hc)
    go_wp2
    go_ret2
    exact .mk none 0 (by rw [Hmc.out, Hr.out] <;> rfl) (by rw [Hr.out]; exact Rd.nil_) hb1

set_option maxRecDepth 100000
set_option linter.unusedSimpArgs false

def M.upd (m : M) (j : Nat) (z : Int) : M :=
  match j with
  | 0 => { m with p := z }
  | 1 => { m with t0 := z }
  | 2 => { m with t1 := z }
  | 3 => { m with t2 := z }
  | 4 => { m with t3 := z }
  | 5 => { m with t4 := z }
  | _ => m
theorem mcs_upd (j : Nat) (hj : j < 6) (z : Int) : ∀ {ms : List M} {k : Nat}, k < ms.length → mcs (ms.set k ((gm ms k).upd j z)) = (mcs ms).set (k * 6 + j) (I z)
  | [], _, h => by simp at h
  | m0 :: ms, 0, _ => by
    match j, hj with
    | 0, _ => rfl
    | 1, _ => rfl
    | 2, _ => rfl
    | 3, _ => rfl
    | 4, _ => rfl
    | 5, _ => rfl
  | m0 :: ms, k + 1, h => by
    have ih := mcs_upd j hj z (ms := ms) (k := k) (by simpa using h)
    rw [gm_cons_succ, List.set_cons_succ, mcs_cons, ih, mcs_cons]
    have e : (k + 1) * 6 + j = k * 6 + j + 6 := by omega
    rw [e]
    rfl
theorem OwM.put {e : TypeId} {w : World} {B g n c : Nat} {ms : List M} (h : OwM e w B (.slice (some ⟨g, 0, none⟩) n c) ms) {k j : Nat} (hk : k < ms.length) (hj : j < 6) (z : Int) : OwM e (w.setCell ⟨g, k * 6 + j, none⟩ (I z)) B (.slice (some ⟨g, 0, none⟩) n c) (ms.set k ((gm ms k).upd j z)) := by
  rcases h.2 with ⟨he, h0⟩ | ⟨g', cap, cur, he, hg, hh, hn, hm, hs, ht⟩
  · omega
  · injection he with e1 e2 e3
    injection e1 with e1
    injection e1 with e1 _
    subst e1 e3
    refine ⟨by rw [mcs_length], .inr ⟨g, c, cur.setIfInBounds (k * 6 + j) (I z), by rw [e2]; simp, hg, ?_, by simpa using hn, hm, by simpa using hs, ?_⟩⟩
    · simp [World.setCell, Array.getElem?_modify, hh]
    · rw [Array.toList_setIfInBounds, List.take_set, List.length_set, ht, mcs_upd j hj z hk]

theorem gm_set {ms : List M} {k : Nat} (hk : k < ms.length) (m : M) : gm (ms.set k m) k = m := by
  rw [gm_eq (by simpa using hk)]; simp
/-- the marks of one map -/
def mm (k : Int) : M := ⟨k, k + 1, k + 2, k + 3, k + 4, k + 5⟩
def marksM (n : Nat) (k : Int) : List M := (List.range n).map fun (i : Nat) => mm (k + 6 * i)
theorem marksM_length (n : Nat) (k : Int) : (marksM n k).length = n := by simp [marksM]
theorem gm_marksM {n : Nat} {k : Int} {j : Nat} (hj : j < n) : gm (marksM n k) j = mm (k + 6 * j) := by simp [gm, marksM, List.getD, hj]
def markMTo (ms : List M) (k : Int) (j : Nat) : List M := marksM j k ++ ms.drop j
theorem markMTo_zero (ms : List M) (k : Int) : markMTo ms k 0 = ms := by simp [markMTo, marksM]
theorem markMTo_all (ms : List M) (k : Int) : markMTo ms k ms.length = marksM ms.length k := by simp [markMTo]
theorem markMTo_length {ms : List M} {k : Int} {j : Nat} (hj : j ≤ ms.length) : (markMTo ms k j).length = ms.length := by simp [markMTo, marksM_length]; omega
theorem markMTo_gm {ms : List M} {k : Int} {j : Nat} (hj : j < ms.length) : gm (markMTo ms k j) j = gm ms j := by
  rw [gm_eq (by rw [markMTo_length (by omega)]; exact hj), gm_eq hj]
  unfold markMTo
  rw [List.getElem_append_right (by rw [marksM_length]; exact Nat.le_refl _)]
  simp [marksM_length]
theorem markMTo_set {ms : List M} {k : Int} {j : Nat} (hj : j < ms.length) : (markMTo ms k j).set j (mm (k + 6 * j)) = markMTo ms k (j + 1) := by
  unfold markMTo
  rw [List.set_append_right _ _ (by rw [marksM_length]; omega), marksM_length, Nat.sub_self, List.drop_eq_getElem_cons hj, List.set_cons_zero]
  simp [marksM, List.range_succ]
/-- one map whose point number and first j images are marked -/
def mkTo (k : Int) (old : M) (j : Nat) : M := part k (fun (l : Nat) => k + 1 + l) old.at j
theorem mkTo_zero (k : Int) (old : M) : mkTo k old 0 = old.upd 0 k := by
  unfold mkTo; rw [part_zero]; rfl
theorem mkTo_five (k : Int) (old : M) : mkTo k old 5 = mm k := by
  refine M.ext5 rfl fun j hj => ?_
  unfold mkTo
  rw [part_at _ _ _ hj, if_pos hj]
  match j, hj with
  | 0, _ => simp [mm, M.at]
  | 1, _ => simp [mm, M.at]; omega
  | 2, _ => simp [mm, M.at]; omega
  | 3, _ => simp [mm, M.at]; omega
  | 4, _ => simp [mm, M.at]; omega
theorem at_upd (m : M) {j l : Nat} (hj : j < 5) (hl : l < 5) (z : Int) : (m.upd (1 + j) z).at l = if l = j then z else m.at l := by
  match j, hj with
  | 0, _ => match l, hl with
    | 0, _ => rfl
    | 1, _ => rfl
    | 2, _ => rfl
    | 3, _ => rfl
    | 4, _ => rfl
  | 1, _ => match l, hl with
    | 0, _ => rfl
    | 1, _ => rfl
    | 2, _ => rfl
    | 3, _ => rfl
    | 4, _ => rfl
  | 2, _ => match l, hl with
    | 0, _ => rfl
    | 1, _ => rfl
    | 2, _ => rfl
    | 3, _ => rfl
    | 4, _ => rfl
  | 3, _ => match l, hl with
    | 0, _ => rfl
    | 1, _ => rfl
    | 2, _ => rfl
    | 3, _ => rfl
    | 4, _ => rfl
  | 4, _ => match l, hl with
    | 0, _ => rfl
    | 1, _ => rfl
    | 2, _ => rfl
    | 3, _ => rfl
    | 4, _ => rfl
theorem p_upd (m : M) {j : Nat} (hj : j < 5) (z : Int) : (m.upd (1 + j) z).p = m.p := by
  match j, hj with
  | 0, _ => rfl
  | 1, _ => rfl
  | 2, _ => rfl
  | 3, _ => rfl
  | 4, _ => rfl
theorem mkTo_succ (k : Int) (old : M) {j : Nat} (hj : j < 5) : (mkTo k old j).upd (1 + j) (k + 1 + j) = mkTo k old (j + 1) := by
  refine M.ext5 (by rw [p_upd _ hj]; rfl) fun l hl => ?_
  rw [at_upd _ hj hl]
  unfold mkTo
  rw [part_at _ _ _ hl, part_at _ _ _ hl]
  by_cases e : l = j
  · subst e; rw [if_pos rfl, if_pos (by omega)]
  · rw [if_neg e]
    by_cases h : l < j
    · rw [if_pos h, if_pos (by omega)]
    · rw [if_neg h, if_neg (by omega)]

theorem markM_any (v : Value) (B : Nat) (ms : List M) (k : Int) (w : World) (hown : OwM 31 w B v ms) (hk0 : 0 ≤ k) (hk : k + 6 * ms.length < 1152921504606846976) :
    Calls Tryz.prog 94 #[v, .int .i64 k] w fun e w' => e = .returned (.int .i64 (k + 6 * ms.length)) ∧ OwM 31 w' B v (marksM ms.length k) ∧ w.grownBy w' v.ownBlock := by
  obtain ⟨A, c, rfl, _⟩ := hown.form
  have Hown := Lib.hid hown
  clear hown
  go_enter Tryz.func94, Tryz.ntmps94
  go_wp2
  go_loopw [1, 5] (fun q i wr => ∃ r : Nat, r ≤ ms.length ∧ i = .int .i64 r ∧ q = .int .i64 (k + 6 * r) ∧ OwM 31 wr B (.slice A ms.length c) (markMTo ms k r) ∧ w.grownBy wr (Value.slice A ms.length c).ownBlock) (fun _ i _ => ms.length - (intOf i).toNat)
  case atStart => exact ⟨0, by omega, rfl, by simp, by rw [markMTo_zero]; exact Hown.out, World.grownBy.refl w _⟩
  case round =>
    obtain ⟨r, hr, rfl, rfl, ho, hg⟩ := hrel
    by_cases hlt : r < ms.length
    · obtain ⟨g, c', he⟩ := ho.some_ (by rw [markMTo_length hr]; omega)
      rw [markMTo_length hr] at he
      injection he with he1 _ he2
      subst he1 he2
      obtain ⟨_, _, h6, hfr, _⟩ := ho.spotAt (k := r) (by rw [markMTo_length hr]; exact hlt)
      have z0 := hfr (r * 6)
      have c0 := h6.1
      have hri : (r : Int) < (ms.length : Int) := by omega
      have Ho := Lib.hid ho
      have Hg := Lib.hid hg
      clear ho hg h6 hfr
      obtain ⟨K, hK⟩ : ∃ K, K = k + 6 * (r : Int) := ⟨_, rfl⟩
      have hK0 : 0 ≤ K := by omega
      have hK1 : K < 1152921504606846976 - 6 := by omega
      rw [← hK]
      have HK := Lib.hid hK
      clear hK
      go_wp2
      go_loopw [1, 6] (fun q i wr => ∃ j : Nat, j ≤ 5 ∧ i = .int .i64 j ∧ q = .int .i64 (K + 1 + j) ∧ OwM 31 wr B (.slice (some ⟨g, 0, none⟩) ms.length c) ((markMTo ms k r).set r (mkTo K (gm ms r) j)) ∧ w.grownBy wr (Value.slice (some ⟨g, 0, none⟩) ms.length c).ownBlock) (fun _ i _ => 5 - (intOf i).toNat)
      case atStart =>
        refine ⟨0, by omega, rfl, by simp, ?_, grownBy_set Hg.out⟩
        have h := Ho.out.put (k := r) (j := 0) (by rw [markMTo_length hr]; exact hlt) (by decide) K
        rw [markMTo_gm hlt, ← mkTo_zero] at h
        exact h
      case round =>
        clear Ho Hg c0 z0
        obtain ⟨j, hj, rfl, rfl, ho, hg⟩ := hrel
        have hln : ((markMTo ms k r).set r (mkTo K (gm ms r) j)).length = ms.length := by rw [List.length_set, markMTo_length hr]
        by_cases hlt5 : j < 5
        · obtain ⟨_, _, h6, hfr, _⟩ := ho.spotAt (k := r) (by rw [hln]; exact hlt)
          have z1 := hfr (r * 6 + 1 + j)
          have c1 : wr.cell? ⟨g, r * 6 + 1 + j, none⟩ = some (I ((mkTo K (gm ms r) j).at j)) := by
            rw [gm_set (by rw [markMTo_length hr]; exact hlt)] at h6
            obtain ⟨_, q0, q1, q2, q3, q4⟩ := h6
            match j, hlt5 with
            | 0, _ => exact q0
            | 1, _ => exact q1
            | 2, _ => exact q2
            | 3, _ => exact q3
            | 4, _ => exact q4
          have Ho := Lib.hid ho
          have Hg := Lib.hid hg
          clear ho hg h6 hfr hln
          go_wp2
          go_roundw
          case rel =>
            refine ⟨j + 1, by omega, by go_num, by go_num, ?_, grownBy_set Hg.out⟩
            have h := Ho.out.put (k := r) (j := 1 + j) (by rw [List.length_set, markMTo_length hr]; exact hlt) (by omega) (K + 1 + j)
            rw [gm_set (by rw [markMTo_length hr]; exact hlt), List.set_set, mkTo_succ _ _ hlt5, ← Nat.add_assoc] at h
            exact h
          case measure => simp [intOf]; omega
        · obtain rfl : j = 5 := by omega
          rw [mkTo_five, HK.out, markMTo_set hlt] at ho
          have Ho := Lib.hid ho
          have Hg := Lib.hid hg
          have HK2 : Hid (K + 1 + 5 = k + 6 * ((r : Int) + 1)) := by show _ = _; rw [HK.out]; omega
          clear ho hg hln
          go_wp2
          go_roundw
          case rel => exact ⟨r + 1, by omega, by go_num, by have := HK2.out; simp; omega, Ho.out, Hg.out⟩
          case measure => simp [intOf]; omega
    · obtain rfl : r = ms.length := by omega
      rw [markMTo_all] at ho
      have hri : ¬ ((ms.length : Int) < (ms.length : Int)) := by omega
      go_wp2
      go_ret
      exact ⟨rfl, ho, hg⟩

set_option maxRecDepth 100000

/-! ### regions -/
section
variable {ops : Array Oper}
/-- each operation behind i waits for one from i on -/
def chainOk (ops : Array Oper) (i : Nat) : Bool :=
  (List.range ops.size).all fun j => !decide (i < j) || match ops[j]? with
    | none => true
    | some o => o.after.any fun e => Region.binds .any e && (decide (i ≤ e.on) && decide (e.on < j))
theorem chain_down {d : Nat → Bool} (hcl : Closed ops d) {i : Nat} (hc : chainOk ops i = true) (hd : d i = false) : ∀ (j : Nat) (o : Oper), i ≤ j → ops[j]? = some o → d j = false := by
  intro j
  induction j using Nat.strongRecOn with
  | _ j ih =>
    intro o hij ho
    by_cases e : j = i
    · subst e; exact hd
    · have hj : j < ops.size := (Array.getElem?_eq_some_iff.1 ho).1
      have h1 := List.all_eq_true.1 hc j (List.mem_range.2 hj)
      rw [Bool.or_eq_true] at h1
      rcases h1 with h1 | h1
      · simp at h1; omega
      · rw [ho] at h1
        simp only at h1
        obtain ⟨q, hq, hb⟩ := Array.any_eq_true.1 h1
        simp only [Bool.and_eq_true, decide_eq_true_eq] at hb
        have hk : o.after[q].on < ops.size := by omega
        have hdk := ih _ hb.2.2 ops[o.after[q].on] hb.2.1 (by rw [Array.getElem?_eq_getElem hk])
        cases hdj : d j with
        | false => rfl
        | true =>
          rw [hcl j o ho hdj _ (Array.getElem_mem hq) hb.1] at hdk
          cases hdk
/-- the value lands in the slots of operations from i on -/
theorem FlagPost.chain {γ : Type} {F : γ → Array Value} {D : List Deferred} {S : (Nat → Bool) → γ → World → Prop} {i : Nat} {o : Oper} {d : Nat → Bool} {c : γ} {a' : Act} {w' : World} (c' : γ) (L : List (Nat × Value)) (t : Nat)
    (hd : a'.defers = D) (ho : o.dst = some t) (hv : a'.tmps.getD t undef = (F c').getD t undef) (hS : S (fun j => if j = i then true else d j) c' w') (hF : F c' = setAll (F c) L)
    (hi : ops[i]? = some o) (hcl : Closed ops d) (hdi : d i = false) (hc : chainOk ops i = true)
    (hL : (L.map (·.1)).all (fun p => (List.range ops.size).any fun j => decide (i ≤ j) && (match ops[j]? with | some q => q.dst == some p | none => false)) = true) : FlagPost ops F D S i o d c a' w' := by
  refine ⟨c', L, ⟨hd, fun t' ht => by rw [ho] at ht; injection ht with ht; subst ht; exact hv⟩, hS, hF, fun p hp => ?_⟩
  have h1 := List.all_eq_true.1 hL p.1 (List.mem_map_of_mem hp)
  obtain ⟨j, hj, hb⟩ := List.any_eq_true.1 h1
  simp only [Bool.and_eq_true, decide_eq_true_eq] at hb
  obtain ⟨hij, hb⟩ := hb
  cases hq : ops[j]? with
  | none => rw [hq] at hb; cases hb
  | some q =>
    rw [hq] at hb
    simp only [beq_iff_eq] at hb
    by_cases e : j = i
    · left
      subst e
      rw [hi] at hq
      injection hq with hq
      rw [hq]; exact hb
    · right
      exact ⟨j, q, hq, hb, e, chain_down hcl hc hdi j q hij hq⟩
end

/-! ### a region that copies the list and calls -/
structure GC where
  v : Value
  r : Value
structure SC (w1 : World) (ms : List M) (R : Value → World → Prop) (b1 b4 : Bool) (c : GC) (w : World) : Prop where
  bel : Below w1.heap.size w1 w
  a : b1 = true → b4 = false → OwM 31 w w1.heap.size c.v ms
  r : b4 = true → R c.r w
section
variable {w1 w w' : World} {ms : List M} {R : Value → World → Prop} {b1 b4 : Bool} {c : GC}
theorem SC.start (hb : Below w1.heap.size w1 w) : SC w1 ms R false false c w := ⟨hb, fun h => (by cases h), fun h => (by cases h)⟩
theorem SC.below (hR : ∀ r w w', R r w → Below w.heap.size w w' → R r w') (h : SC w1 ms R b1 b4 c w) (hb : Below w.heap.size w w') : SC w1 ms R b1 b4 c w' :=
  ⟨h.bel.trans (hb.mono h.bel.size), fun e1 e2 => (h.a e1 e2).below hb (Nat.le_refl _), fun e => hR _ _ _ (h.r e) hb⟩
theorem SC.doA (h : SC w1 ms R false false c w) {v : Value} (ho : OwM 31 w' w.heap.size v ms) (hb : Below w.heap.size w w') : SC w1 ms R true false { c with v := v } w' :=
  ⟨h.bel.trans (hb.mono h.bel.size), fun _ _ => ho.mono h.bel.size, fun e => (by cases e)⟩
theorem SC.doC (h : SC w1 ms R true false c w) {r : Value} (hr : R r w') (hb : Below w.heap.size w w') : SC w1 ms R true true { c with r := r } w' :=
  ⟨h.bel.trans (hb.mono h.bel.size), fun _ e => (by cases e), fun _ => hr⟩
theorem SC.fin (h : SC w1 ms R true true c w) : R c.r w ∧ Below w1.heap.size w1 w := ⟨h.r rfl, h.bel⟩
end
/-- a result to be read -/
def RR6 (res : List M) (r : Value) (w : World) : Prop := ∃ A c, r = .slice A res.length c ∧ RdM w w.heap.size A res
def RR1 (res : List Int) (r : Value) (w : World) : Prop := ∃ A c, r = .slice A res.length c ∧ RdI w w.heap.size A res
theorem RR6.below {res : List M} (r : Value) (w w' : World) (h : RR6 res r w) (hb : Below w.heap.size w w') : RR6 res r w' := by
  obtain ⟨A, c, e, hr⟩ := h
  exact ⟨A, c, e, Rd.more (Rd.below hr hb) hb.size⟩
theorem RR1.below {res : List Int} (r : Value) (w w' : World) (h : RR1 res r w) (hb : Below w.heap.size w w') : RR1 res r w' := by
  obtain ⟨A, c, e, hr⟩ := h
  exact ⟨A, c, e, Rd.more (Rd.below hr hb) hb.size⟩
theorem RetS.out {res : List M} {code : Int} {w w' : World} {e : Ending} (h : RetS res code w e w') : ∃ r, e = .returned (.tuple #[r, I code]) ∧ RR6 res r w' ∧ Below w.heap.size w w' := by
  obtain ⟨A, c, rfl, hr, hb⟩ := h
  exact ⟨_, rfl, ⟨A, c, rfl, hr⟩, hb⟩
theorem RetSI.out {res : List Int} {code : Int} {w w' : World} {e : Ending} (h : RetSI res code w e w') : ∃ r, e = .returned (.tuple #[r, I code]) ∧ RR1 res r w' ∧ Below w.heap.size w w' := by
  obtain ⟨A, c, rfl, hr, hb⟩ := h
  exact ⟨_, rfl, ⟨A, c, rfl, hr⟩, hb⟩

theorem OwM.rdA {e : TypeId} {w : World} {B n c : Nat} {A : Option Addr} {ms : List M} (h : OwM e w B (.slice A n c) ms) : RdM w w.heap.size A ms := by
  obtain ⟨A', c', e, hr⟩ := h.form
  injection e with e1 _ _
  subst e1
  exact hr
theorem OwI.rdA {e : TypeId} {w : World} {B n c : Nat} {A : Option Addr} {zs : List Int} (h : OwI e w B (.slice A n c) zs) : RdI w w.heap.size A zs := by
  obtain ⟨A', c', e, hr⟩ := h.form
  injection e with e1 _ _
  subst e1
  exact hr

/-! ### the state of a statement's walk -/
theorem ownsRow_keep {w w' : World} {B : Nat} {e : TypeId} {k : Nat} {v : Value} {n : Nat} {cs : List Value} (h : w.ownsRow B e k v n cs) (hk : ∀ g, v.ownBlock = some g → w'.heap[g]? = w.heap[g]?) : w'.ownsRow B e k v n cs := by
  refine ⟨h.1, ?_⟩
  rcases h.2 with hn | ⟨g, cap, cur, rfl, hg, hh, rest⟩
  · exact .inl hn
  · exact .inr ⟨g, cap, cur, rfl, hg, by rw [hk g rfl]; exact hh, rest⟩
structure LS (w : World) (A : Option Addr) (ms : List M) (bxs : List (Nat × M)) (k0 B0 : Nat) (A0 : Option Addr) (n0 : Nat) (cs0 : List Value) (bX : Nat) (vX : Value) (xs : List M) (bG : Nat) (eG : TypeId) (kG : Nat) (vG : Value) (nG : Nat) (csG : List Value) (wc : World) : Prop where
  inp : RdM w w.heap.size A ms
  bel : Below w.heap.size w wc
  box : ∀ p ∈ bxs, Six wc p.1 p.2 ∧ w.heap.size ≤ p.1 ∧ p.1 < B0
  r0 : Rd k0 wc B0 A0 n0 cs0
  ox : OwM 31 wc bX vX xs
  og : wc.ownsRow bG eG kG vG nG csG
  h0 : w.heap.size ≤ B0
  h1 : B0 ≤ bX
  h2 : ∀ g, vX.ownBlock = some g → g < bG
  h3 : bX ≤ bG
  h4 : bG ≤ wc.heap.size
section
variable {w wc w' : World} {A : Option Addr} {ms : List M} {bxs : List (Nat × M)} {k0 B0 : Nat} {A0 : Option Addr} {n0 : Nat} {cs0 : List Value} {bX : Nat} {vX : Value} {xs : List M} {bG : Nat} {eG : TypeId} {kG : Nat} {vG : Value} {nG : Nat} {csG : List Value}
theorem LS.start (hi : RdM w w.heap.size A ms) (hb : Below w.heap.size w wc) (hx : ∀ p ∈ bxs, Six wc p.1 p.2 ∧ w.heap.size ≤ p.1) : LS w A ms bxs 6 wc.heap.size none 0 [] wc.heap.size (.slice none 0 0) [] wc.heap.size 31 6 (.slice none 0 0) 0 [] wc where
  inp := hi
  bel := hb
  box := fun p hp => ⟨(hx p hp).1, (hx p hp).2, (hx p hp).1.lt⟩
  r0 := Rd.nil_
  ox := OwM.nil_
  og := World.ownsRow_nil wc wc.heap.size 31 6
  h0 := hb.size
  h1 := Nat.le_refl _
  h2 := fun g hg => by cases hg
  h3 := Nat.le_refl _
  h4 := Nat.le_refl _
theorem LS.below (h : LS w A ms bxs k0 B0 A0 n0 cs0 bX vX xs bG eG kG vG nG csG wc) (hb : Below wc.heap.size wc w') : LS w A ms bxs k0 B0 A0 n0 cs0 bX vX xs bG eG kG vG nG csG w' where
  inp := h.inp
  bel := h.bel.trans (hb.mono h.bel.size)
  box := fun p hp => ⟨(h.box p hp).1.below hb (h.box p hp).1.lt, (h.box p hp).2⟩
  r0 := h.r0.below' hb (Nat.le_trans h.h1 (Nat.le_trans h.h3 h.h4))
  ox := h.ox.below hb (Nat.le_refl _)
  og := ownsRow_keep h.og fun g hg => hb.block g (World.ownsRow.lt h.og g hg).2
  h0 := h.h0
  h1 := h.h1
  h2 := h.h2
  h3 := h.h3
  h4 := Nat.le_trans h.h4 hb.size
theorem LS.setR (h : LS w A ms bxs k0 B0 A0 n0 cs0 bX vX xs bG eG kG vG nG csG wc) {k : Nat} {A' : Option Addr} {n : Nat} {cs : List Value} (hr : Rd k wc wc.heap.size A' n cs) : LS w A ms bxs k wc.heap.size A' n cs wc.heap.size (.slice none 0 0) [] wc.heap.size 31 6 (.slice none 0 0) 0 [] wc where
  inp := h.inp
  bel := h.bel
  box := fun p hp => ⟨(h.box p hp).1, (h.box p hp).2.1, (h.box p hp).1.lt⟩
  r0 := hr
  ox := OwM.nil_
  og := World.ownsRow_nil wc wc.heap.size 31 6
  h0 := h.bel.size
  h1 := Nat.le_refl _
  h2 := fun g hg => by cases hg
  h3 := Nat.le_refl _
  h4 := Nat.le_refl _
theorem LS.setX (h : LS w A ms bxs k0 B0 A0 n0 cs0 bX vX xs bG eG kG vG nG csG wc) (hb : Below wc.heap.size wc w') {v : Value} {ys : List M} (ho : OwM 31 w' wc.heap.size v ys) : LS w A ms bxs k0 B0 A0 n0 cs0 wc.heap.size v ys w'.heap.size 31 6 (.slice none 0 0) 0 [] w' :=
  have h' := h.below hb
  { inp := h'.inp, bel := h'.bel, box := h'.box, r0 := h'.r0, ox := ho, og := World.ownsRow_nil w' w'.heap.size 31 6, h0 := h'.h0
    h1 := Nat.le_trans h.h1 (Nat.le_trans h.h3 h.h4)
    h2 := fun g hg => (ho.lt g hg).2
    h3 := hb.size
    h4 := Nat.le_refl _ }
theorem LS.setG (h : LS w A ms bxs k0 B0 A0 n0 cs0 bX vX xs bG eG kG vG nG csG wc) (hb : Below wc.heap.size wc w') {e : TypeId} {k : Nat} {v : Value} {n : Nat} {cs : List Value} (ho : w'.ownsRow wc.heap.size e k v n cs) : LS w A ms bxs k0 B0 A0 n0 cs0 bX vX xs wc.heap.size e k v n cs w' :=
  have h' := h.below hb
  { inp := h'.inp, bel := h'.bel, box := h'.box, r0 := h'.r0, ox := h'.ox, og := ho, h0 := h'.h0, h1 := h'.h1
    h2 := fun g hg => Nat.lt_of_lt_of_le (h.h2 g hg) h.h4
    h3 := Nat.le_trans h.h3 h.h4
    h4 := hb.size }
theorem LS.markX (h : LS w A ms bxs k0 B0 A0 n0 cs0 bX vX xs bG eG kG vG nG csG wc) {ys : List M} (ho : OwM 31 w' bX vX ys) (hg : wc.grownBy w' vX.ownBlock) : LS w A ms bxs k0 B0 A0 n0 cs0 bX vX ys bG eG kG vG nG csG w' where
  inp := h.inp
  bel := h.ox.bel h.bel hg (Nat.le_trans h.h0 h.h1) h.bel.size
  box := fun p hp => ⟨(h.box p hp).1.grown hg fun e => by have := (h.ox.lt _ e.symm).1; have := (h.box p hp).2.2; have := h.h1; omega, (h.box p hp).2⟩
  r0 := h.r0.grown hg (Nat.le_trans h.h1 (Nat.le_trans h.h3 h.h4)) fun g e => Nat.le_trans h.h1 (h.ox.lt g e).1
  ox := ho
  og := ownsRow_keep h.og fun g hv => hg.block g (World.ownsRow.lt h.og g hv).2 fun e => by have := (World.ownsRow.lt h.og g hv).1; have := h.h2 g e.symm; omega
  h0 := h.h0
  h1 := h.h1
  h2 := h.h2
  h3 := h.h3
  h4 := Nat.le_trans h.h4 hg.size
theorem LS.markG (h : LS w A ms bxs k0 B0 A0 n0 cs0 bX vX xs bG eG kG vG nG csG wc) {cs : List Value} (ho : w'.ownsRow bG eG kG vG nG cs) (hg : wc.grownBy w' vG.ownBlock) : LS w A ms bxs k0 B0 A0 n0 cs0 bX vX xs bG eG kG vG nG cs w' where
  inp := h.inp
  bel := h.bel.grown hg h.bel.size fun k hk => by have := (World.ownsRow.lt h.og k hk).1; have := h.h0; have := h.h1; have := h.h3; omega
  box := fun p hp => ⟨(h.box p hp).1.grown hg fun e => by have := (World.ownsRow.lt h.og _ e.symm).1; have := (h.box p hp).2.2; have := h.h1; have := h.h3; omega, (h.box p hp).2⟩
  r0 := h.r0.grown hg (Nat.le_trans h.h1 (Nat.le_trans h.h3 h.h4)) fun g e => by have := (World.ownsRow.lt h.og g e).1; have := h.h1; have := h.h3; omega
  ox := h.ox.grown hg fun g hv e => by have := (World.ownsRow.lt h.og g e).1; have := h.h2 g hv; omega
  og := ho
  h0 := h.h0
  h1 := h.h1
  h2 := h.h2
  h3 := h.h3
  h4 := Nat.le_trans h.h4 hg.size
theorem LS.list (h : LS w A ms bxs k0 B0 A0 n0 cs0 bX vX xs bG eG kG vG nG csG wc) : RdM wc wc.heap.size A ms := Rd.more (Rd.below h.inp h.bel) h.bel.size
theorem LS.res (h : LS w A ms bxs k0 B0 A0 n0 cs0 bX vX xs bG eG kG vG nG csG wc) : Rd k0 wc wc.heap.size A0 n0 cs0 := Rd.more h.r0 (Nat.le_trans h.h1 (Nat.le_trans h.h3 h.h4))
end

set_option maxRecDepth 100000
set_option linter.unusedSimpArgs false

theorem codeL_cases (ms xs : List M) : codeL ms xs = 0 ∨ codeL ms xs = 1 ∨ codeL ms xs = 2 := by
  unfold codeL
  split
  · split
    · exact .inl rfl
    · exact .inr (.inr rfl)
  · exact .inr (.inl rfl)
theorem elC_cases {ms xs : List M} : elC ms xs = 0 ∨ elC ms xs = 1 ∨ elC ms xs = 2 ∨ elC ms xs = 3 := by
  unfold elC
  split
  · split
    · exact .inl rfl
    · exact .inr (.inr (.inr rfl))
  · have := codeL_cases ms xs; omega
theorem elC_p {ms xs : List M} (h : elC ms xs ≠ 0) : 0 < elC ms xs ∧ elC ms xs < 4 := by
  have := elC_cases (ms := ms) (xs := xs); omega
theorem monC_nil (ms : List M) : monC ms [] = elC ms [] := by
  by_cases h : elC ms [] = 0
  · obtain ⟨E, ps, hE⟩ := elC_el h
    rw [h]
    exact hE.mon0 (by simp)
  · exact elC_mon h
/-- one map in a block of its own is a list -/
theorem rd_one {w : World} {f : M} {b : Nat} (h : Six w b f) : RdM w w.heap.size (some ⟨b, 0, none⟩) [f] := by
  refine ⟨by simp [mcs], fun _ => ⟨b, 0, rfl, h.lt, fun j u hj => ?_⟩⟩
  obtain ⟨c0, c1, c2, c3, c4, c5⟩ := h
  rw [Nat.zero_add]
  simp only [mcs, List.flatMap_cons, List.flatMap_nil, List.append_nil] at hj
  match j, hj with
  | 0, hj => simp at hj; subst hj; exact c0
  | 1, hj => simp at hj; subst hj; exact c1
  | 2, hj => simp at hj; subst hj; exact c2
  | 3, hj => simp at hj; subst hj; exact c3
  | 4, hj => simp at hj; subst hj; exact c4
  | 5, hj => simp at hj; subst hj; exact c5
  | n + 6, hj => simp at hj

theorem SpecElementsOf_any (A : Option Addr) (n c : Nat) (ms : List M) (w : World) (hx : RdM w w.heap.size A ms) (hn : ms.length = n) (hb : n < 1073741824) :
    Calls Tryz.prog 101 #[.slice A n c] w (RetS (elR ms []) (elC ms []) w) := by
  have Hx := Lib.hid hx
  have Hn := Lib.hid hn
  clear hx hn
  go_enter Tryz.func101, Tryz.ntmps101
  go_wp2_with fail
  refine (l02Elements_any A none n c 0 0 ms [] _ Hx.out Rd.nil_ Hn.out rfl hb (by decide)).mono ?_
  rintro e w1 ⟨A', c', rfl, hr, hb1⟩
  have Hr := Lib.hid hr
  clear hr
  go_wp2
  go_ret2
  exact .mk A' c' rfl Hr.out hb1

theorem ImplElementsOf_any (A : Option Addr) (n c : Nat) (ms : List M) (w : World) (hx : RdM w w.heap.size A ms) (hn : ms.length = n) (hA : A = none → n = 0 ∧ c = 0) (hb : n < 536870912) :
    Calls Tryz.prog 100 #[.slice A n c] w (RetM (elR ms []) (elC ms []) w) := by
  have Hx := Lib.hid hx
  have Hn := Lib.hid hn
  have HA := Lib.hid hA
  have hcc := monC_nil ms
  clear hx hn hA
  by_cases hc : elC ms [] = 0
  · obtain ⟨E, ps, hE⟩ := elC_el hc
    have HE := Lib.hid hE
    rw [hc] at hcc
    have Hc := Lib.hid hc
    have Hcc := Lib.hid hcc
    clear hE hc hcc
    go_enter Tryz.func100, Tryz.ntmps100
    go_wp2_with fail
    refine (monoidOf_any A none n c 0 0 ms [] _ Hx.out Rd.nil_ Hn.out rfl HA.out (fun _ => ⟨rfl, rfl⟩) (by omega)).mono ?_
    rintro e w1 ⟨r, v, rfl, hb1, hr0, hs⟩
    obtain ⟨g, rfl, hM, _⟩ := hs ps HE.out.clo Hcc.out
    obtain ⟨_, ev, wv, pl, vs, hMo, _, hO, _⟩ := hM
    rw [Hcc.out]
    have c0 := hMo.c0
    have HO := Lib.hid hO
    have Hb := Lib.hid hb1
    obtain ⟨A', c', e', _⟩ := hO.form
    subst e'
    clear hMo hO hs hb1 hr0
    go_wp2
    go_ret2
    exact .mk _ (by rw [Hc.out] <;> rfl) (by rw [HE.out.r, HE.out.eq]; exact HO.out) Hb.out
  · have hR := elR_bad hc
    have HR := Lib.hid hR
    have Hcc := Lib.hid hcc
    obtain ⟨p0, p4⟩ := elC_p hc
    have hne : (elC ms [] != 0) = true := by simpa using hc
    clear hc hcc hR
    go_enter Tryz.func100, Tryz.ntmps100
    go_wp2_with fail
    refine (monoidOf_any A none n c 0 0 ms [] _ Hx.out Rd.nil_ Hn.out rfl HA.out (fun _ => ⟨rfl, rfl⟩) (by omega)).mono ?_
    rintro e w1 ⟨r, v, rfl, hb1, hr0, hs⟩
    rw [Hcc.out]
    have Hb := Lib.hid hb1
    clear hb1 hs hr0
    go_wp2
    go_ret2
    exact .mk _ rfl (by rw [HR.out]; exact OwM.nil_) Hb.out

theorem SpecSizeOf_any (A : Option Addr) (n c : Nat) (ms : List M) (w : World) (hx : RdM w w.heap.size A ms) (hn : ms.length = n) (hb : n < 1073741824) :
    Calls Tryz.prog 102 #[.slice A n c] w fun e w' => e = .returned (.tuple #[I (elR ms []).length, I (elC ms [])]) ∧ Below w.heap.size w w' := by
  have Hx := Lib.hid hx
  have Hn := Lib.hid hn
  clear hx hn
  by_cases hc : elC ms [] = 0
  · have Hc := Lib.hid hc
    clear hc
    go_enter Tryz.func102, Tryz.ntmps102
    go_wp2_with fail
    refine (l02Elements_any A none n c 0 0 ms [] _ Hx.out Rd.nil_ Hn.out rfl hb (by decide)).mono ?_
    rintro e w1 ⟨A', c', rfl, hr, hb1⟩
    rw [Hc.out]
    clear hr
    go_wp2
    go_ret2
    exact ⟨by rw [Hc.out] <;> rfl, hb1⟩
  · have hR := elR_bad hc
    have HR := Lib.hid hR
    have hne : (elC ms [] != 0) = true := by simpa using hc
    clear hc hR
    go_enter Tryz.func102, Tryz.ntmps102
    go_wp2_with fail
    refine (l02Elements_any A none n c 0 0 ms [] _ Hx.out Rd.nil_ Hn.out rfl hb (by decide)).mono ?_
    rintro e w1 ⟨A', c', rfl, hr, hb1⟩
    clear hr
    go_wp2
    go_ret2
    exact ⟨by rw [HR.out] <;> rfl, hb1⟩

theorem ImplSizeOf_any (A : Option Addr) (n c : Nat) (ms : List M) (w : World) (hx : RdM w w.heap.size A ms) (hn : ms.length = n) (hA : A = none → n = 0 ∧ c = 0) (hb : n < 536870912) :
    Calls Tryz.prog 33 #[.slice A n c] w fun e w' => e = .returned (.tuple #[I (elR ms []).length, I (elC ms [])]) ∧ Below w.heap.size w w' := by
  have Hx := Lib.hid hx
  have Hn := Lib.hid hn
  have HA := Lib.hid hA
  clear hx hn hA
  go_enter Tryz.func33, Tryz.ntmps33
  go_wp2_with fail
  refine (ImplElementsOf_any A n c ms _ Hx.out Hn.out HA.out hb).mono ?_
  rintro e w1 ⟨v, rfl, ho, hb1⟩
  obtain ⟨A', c', rfl, _⟩ := ho.form
  clear ho
  go_wp2
  go_ret2
  exact ⟨rfl, hb1⟩

/-! ### IsElement -/
def isElB (ms : List M) (f : M) : Bool := decide (elC ms [f] = 0) && decide (f ∈ elR ms [f])
theorem SpecIsElement_any (A : Option Addr) (n c : Nat) (ms : List M) (f : M) (w : World) (hx : RdM w w.heap.size A ms) (hn : ms.length = n) (hb : n < 1073741824) :
    Calls Tryz.prog 32 #[.slice A n c, .agg (mc f)] w fun e w' => e = .returned (.tuple #[.bool (isElB ms f), I (elC ms [f])]) ∧ Below w.heap.size w w' := by
  obtain ⟨wb, hwb⟩ : ∃ wb, wb = (w.alloc (.cells (mc f) 31)).alloc (.cells (mc f) 31) := ⟨_, rfl⟩
  have hbb : Below w.heap.size w wb := by rw [hwb]; exact ((Below.refl _ _).alloc (Nat.le_refl _) _).alloc (by simp) _
  have h6 : Six wb w.heap.size f := by rw [hwb]; exact Six.alloc (Blk.six (Blk.new w _ _)) _
  have h7 : RdM wb wb.heap.size (some ⟨w.heap.size + 1, 0, none⟩) [f] := by rw [hwb]; exact rd_one (Blk.six (Blk.new' _ _ _ (by simp)))
  have Hx := Lib.hid (Rd.more (Rd.below hx hbb) hbb.size)
  have Hn := Lib.hid hn
  have H6 := Lib.hid h6
  have H7 := Lib.hid h7
  have Hbb := Lib.hid hbb
  have Hwb := Lib.hid hwb
  have hlt := h6.lt
  clear hx hn h6 h7 hbb hwb
  by_cases hc : elC ms [f] = 0
  · obtain ⟨E, ps, hE⟩ := elC_el hc
    have hvf := (hE.X f (by simp)).1
    have HEv : Hid (∀ g ∈ E, Valid g) := fun g hg => (hE.mnd.ok g hg).1
    have hlen := hE.len
    have hB : isElB ms f = decide (f ∈ E) := by unfold isElB; rw [decide_eq_true hc, Bool.true_and, hE.r]
    have HB := Lib.hid hB
    have HE := Lib.hid hE
    have Hc := Lib.hid hc
    clear hE hc hB
    go_enter Tryz.func32, Tryz.ntmps32
    go_wp2_with fail
    rw [← Hwb.out]
    refine (l02Elements_any A (some ⟨w.heap.size + 1, 0, none⟩) n c 1 1 ms [f] wb Hx.out H7.out Hn.out rfl hb (by decide)).mono ?_
    rintro e w1 ⟨A', c', rfl, hr, hb1⟩
    rw [HE.out.r] at hr ⊢
    rw [Hc.out]
    have Hr := Lib.hid hr
    have Hb1 := Lib.hid hb1
    obtain ⟨d0, d1, d2, d3, d4, d5⟩ := H6.out.below hb1 hlt
    clear hr hb1
    go_wp2_with fail
    refine (l02Find_any A' E.length c' E f _ Hr.out rfl (by omega) HE.out.mnd.asc HEv.out hvf).mono ?_
    rintro e w2 ⟨rfl, hb2⟩
    have Hb2 := Lib.hid (Hbb.out.trans ((Hb1.out.trans (hb2.mono Hb1.out.size)).mono Hbb.out.size))
    clear hb2 d0 d1 d2 d3 d4 d5
    by_cases hin : f ∈ E
    · obtain ⟨x, hx⟩ : ∃ x : Nat, plOf E f - 1 = (x : Int) := ⟨ix E f, by rw [plOf_in hin]; omega⟩
      have hx0 : (0 : Int) ≤ (x : Int) := by omega
      rw [hx]
      have Hin := Lib.hid hin
      clear hin hx
      go_wp2
      go_ret2
      exact ⟨by rw [HB.out, Hc.out, decide_eq_true Hin.out] <;> rfl, Hb2.out⟩
    · have hx : plOf E f - 1 = -1 := by rw [plOf_out hin]; rfl
      rw [hx]
      have Hin := Lib.hid hin
      clear hin hx
      go_wp2
      go_ret2
      exact ⟨by rw [HB.out, Hc.out, decide_eq_false Hin.out] <;> rfl, Hb2.out⟩
  · have hB : isElB ms f = false := by unfold isElB; rw [decide_eq_false hc, Bool.false_and]
    have HB := Lib.hid hB
    have hne : (elC ms [f] != 0) = true := by simpa using hc
    clear hc hB
    go_enter Tryz.func32, Tryz.ntmps32
    go_wp2_with fail
    rw [← Hwb.out]
    refine (l02Elements_any A (some ⟨w.heap.size + 1, 0, none⟩) n c 1 1 ms [f] wb Hx.out H7.out Hn.out rfl hb (by decide)).mono ?_
    rintro e w1 ⟨A', c', rfl, hr, hb1⟩
    have Hb2 := Lib.hid (Hbb.out.trans (hb1.mono Hbb.out.size))
    clear hr hb1
    go_wp2
    go_ret2
    exact ⟨by rw [HB.out] <;> rfl, Hb2.out⟩
theorem ImplIsElement_any (A : Option Addr) (n c : Nat) (ms : List M) (f : M) (w : World) (hx : RdM w w.heap.size A ms) (hn : ms.length = n) (hA : A = none → n = 0 ∧ c = 0) (hb : n < 536870912) :
    Calls Tryz.prog 31 #[.slice A n c, .agg (mc f)] w fun e w' => e = .returned (.tuple #[.bool (isElB ms f), I (elC ms [f])]) ∧ Below w.heap.size w w' := by
  obtain ⟨wb, hwb⟩ : ∃ wb, wb = (w.alloc (.cells (mc f) 31)).alloc (.cells (mc f) 31) := ⟨_, rfl⟩
  have hbb : Below w.heap.size w wb := by rw [hwb]; exact ((Below.refl _ _).alloc (Nat.le_refl _) _).alloc (by simp) _
  have h7 : RdM wb wb.heap.size (some ⟨w.heap.size + 1, 0, none⟩) [f] := by rw [hwb]; exact rd_one (Blk.six (Blk.new' _ _ _ (by simp)))
  have Hx := Lib.hid (Rd.more (Rd.below hx hbb) hbb.size)
  have Hn := Lib.hid hn
  have HA := Lib.hid hA
  have H7 := Lib.hid h7
  have Hbb := Lib.hid hbb
  have Hwb := Lib.hid hwb
  clear hx hn h7 hbb hwb hA
  have key : ∃ x : Int, monC ms [f] = x ∧ ((x = 4 ∧ isElB ms f = false ∧ elC ms [f] = 0) ∨ (x = 0 ∧ isElB ms f = true ∧ elC ms [f] = 0) ∨ (0 < x ∧ x < 4 ∧ isElB ms f = false ∧ elC ms [f] = x)) := by
    refine ⟨_, rfl, ?_⟩
    by_cases hc : elC ms [f] = 0
    · obtain ⟨E, ps, hE⟩ := elC_el hc
      have hB : isElB ms f = decide (f ∈ E) := by unfold isElB; rw [decide_eq_true hc, Bool.true_and, hE.r]
      rw [hB, hE.mon]
      by_cases hin : f ∈ E
      · right; left; simp [hin, hc]
      · left; simp [hin, hc]
    · right; right
      have hB : isElB ms f = false := by unfold isElB; rw [decide_eq_false hc, Bool.false_and]
      rw [elC_mon hc]
      exact ⟨(elC_p hc).1, (elC_p hc).2, hB, rfl⟩
  obtain ⟨x, hx, key⟩ := key
  have Hmx := Lib.hid hx
  clear hx
  go_enter Tryz.func31, Tryz.ntmps31
  go_wp2_with fail
  rw [← Hwb.out]
  refine (monoidOf_any A (some ⟨w.heap.size + 1, 0, none⟩) n c 1 1 ms [f] wb Hx.out H7.out Hn.out rfl HA.out (fun h => (by cases h)) (by omega)).mono ?_
  rintro e w1 ⟨r, v, rfl, hb1, hr0, hs⟩
  rw [Hmx.out]
  have Hb2 := Lib.hid (Hbb.out.trans (hb1.mono Hbb.out.size))
  clear hb1 hs hr0
  rcases key with ⟨rfl, hB, hc⟩ | ⟨rfl, hB, hc⟩ | ⟨p0, p4, hB, hc⟩
  · have HB := Lib.hid hB
    have Hc := Lib.hid hc
    clear hB hc
    go_wp2
    go_ret2
    exact ⟨by rw [HB.out, Hc.out] <;> rfl, Hb2.out⟩
  · have HB := Lib.hid hB
    have Hc := Lib.hid hc
    clear hB hc
    go_wp2
    go_ret2
    exact ⟨by rw [HB.out, Hc.out] <;> rfl, Hb2.out⟩
  · have HB := Lib.hid hB
    have Hc := Lib.hid hc
    have h4 : (x == 4) = false := by simp; omega
    have h0 : (x == 0) = false := by simp; omega
    clear hB hc
    go_wp2
    go_ret2
    exact ⟨by rw [HB.out, Hc.out] <;> rfl, Hb2.out⟩
end Go.Proofs.YtkbfocoaobiijaaGreat
