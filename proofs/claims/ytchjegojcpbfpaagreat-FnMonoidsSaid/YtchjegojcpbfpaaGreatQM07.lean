/- The contract of monoidOf; the lists are as the theorem states. The contract of spec.l02Elements; the lists are as the theorem states. Contracts of the marks on lists of maps; no conditions beyond those that each theorem states. What stands while a statement is walked: its arguments, the reference's result, the program's argument and result; ends of regions whose last call hands its value on; no conditions beyond those that each theorem states. Contracts of ElementsOf, SizeOf, IsElement and WordFor of both sides; the lists are as each theorem states. Contracts of the predicates on the elements of a monoid and of elementsThat; the monoid stands as the theorems say. Contracts of elementsThat and of the program's lists of elements that are such; the lists are as each theorem states. Contracts of CentreOf, IdempotentsOf, SideZeros, ZeroOf, IsCommutative and IsRegularIn of the program; the lists are as each theorem states. Contracts of IsCommutative and IsRegularIn of the program; the lists are as each theorem states. A map of a list in its block; parts of lists. Contracts of l04All, IsRegularIn and WordFor of both sides; the lists are as each theorem states. Contracts of WordFor of the reference, and of SizesByLength of both sides; the lists are as each theorem states. Contracts of SizesByLength of both sides; the lists are as each theorem states. Contracts of the functions that keep the points of a map that are such; the maps are valid where the theorems say so. Contracts of the points that are kept, for each test; the maps are valid where the theorems say so. Contracts of powers; the maps are valid as each theorem states. Contracts of sets of points as digits in base 2, and of the cyclic points; the maps are valid where the theorems say so. The kit's own contracts of the library's functions at this translation, laid by the kit's tools; no conditions beyond those that each theorem states. Contracts of the library's functions on lists of numbers: less, index, contains; no conditions beyond those that each theorem states. Lists without repetitions, in plain words; no conditions. -/
import Derived.Test.YtchjegojcpbfpaaGreatQM06
import Derived.Test.YtchjegojcpbfpaaGreatProg
import Derived.OwnWalk
import Derived.Lib.SliceRun
import Derived.IntWalk
import Derived.Deep.QuietTactic
import Derived.BigQuiet
import Derived.Laws.BitsLemmas
import Derived.Shelf.Small.Bits
import Derived.Shelf.Strconv.Itoa0
import Derived.RegionTactic
import Derived.ChangeAlike
set_option linter.unusedSimpArgs false
set_option linter.unusedVariables false
namespace Go.Proofs.YtchjegojcpbfpaaGreat
open Go.RowKit
set_option maxRecDepth 100000
theorem MonAt.from {n : Int} {B B' g : Nat} {E : List M} {us : List (List Int)} {w : World} (h : MonAt n B g E us w) (hB : B' ≤ B) : MonAt n B' g E us w := by
  obtain ⟨ge, ev, wv, pl, vs, h1, h2, h3, h4, h5, h6, h7⟩ := h
  exact ⟨by omega, ev, wv, pl, vs, h1, h2, h3.mono hB, h4.mono hB, h5, h6, fun j hj => (h7 j hj).mono hB⟩
theorem infoN : (Tryz.prog.info? 3).map (fun i => (i.zero, i.size, i.bytes)) = some (some (.int .i64 0), 1, 8) := by kernel_rfl
theorem wpList_pushN {w : World} {ops : Array Oper} {rest : List Oper} {o : Oper} {a : Act} {Q : Exit → Act → World → Prop} (hgd : o.guard = none) (s x : Operand)
    (ho : o.op = .call { callee := .builtin .append, args := #[s, x], argTypes := #[77, 77] }) (B : Nat) (v : Value) (zs : List Int) (hs : a.eval s = v) (hown : OwI 3 w B v zs) (n : Nat) (hlen : zs.length = n)
    (g : Nat) (c : Nat) (z : Int) (hx : a.eval x = .slice (some ⟨g, 0, none⟩) 1 c) (hg : w.cell? ⟨g, 0, none⟩ = some (I z))
    (hn : n < 1073741824) (hB : B ≤ w.heap.size) (H : Nat) (hH : w.heap.size = H)
    (h : ∀ g' cap w', OwI 3 w' B (.slice (some ⟨g', 0, none⟩) (n + 1) cap) (zs ++ [z]) → w.grownBy w' v.ownBlock → (v.ownBlock = some g' ∨ g' = H) → g' < w'.heap.size →
      wpList Tryz.prog ops Q rest (a.put o.dst (.slice (some ⟨g', 0, none⟩) (n + 1) cap)) w') : wpList Tryz.prog ops Q (o :: rest) a w := by
  subst hlen
  obtain ⟨i, hi, hz0, hz1, hz2⟩ := info_parts infoN
  refine wpList_append_lies w hgd s x 77 ho B 3 i (.int .i64 0) 1 8 Tryz.underlying77 hi hz0 hz1 hz2 rfl (by decide) v zs.length (cI zs) hs hown ⟨g, 0, none⟩ 1 c [I z] hx rfl ?_ ?_ (by decide) (by unfold maxLen; omega) (by omega) hB H hH ?_
  · intro j u hj
    match j, hj with
    | 0, hj => simp at hj; subst hj; simpa [Addr.add] using hg
  · intro u hu; simp at hu; subst hu; rfl
  · intro g' cap w' h1 h2 h3 h4
    exact h g' cap w' (by unfold OwI; rw [cI_snoc]; simpa using h1) h2 h3 h4
theorem codeL_pts' {ms xs : List M} (h : codeL ms xs = 0) : 1 ≤ (gm ms 0).p ∧ (gm ms 0).p ≤ 5 ∧ Pts (gm ms 0).p ms ∧ Pts (gm ms 0).p xs ∧ 1 ≤ ms.length ∧ ms.length ≤ 6 := by
  obtain ⟨h1, h2, h3⟩ := codeL_zero.1 h
  have h4 := inR_true.1 h2
  rw [List.all_eq_true] at h1 h3
  have key : ∀ f, f ∈ ms ++ xs → Valid f ∧ f.p = (gm ms 0).p := fun f hf => ⟨(isMap_iff f).1 (h1 f hf), of_decide_eq_true (h3 f hf)⟩
  have h0 : gm ms 0 ∈ ms := by rw [gm_eq (by omega)]; exact List.getElem_mem _
  have hv := (key _ (List.mem_append_left _ h0)).1
  exact ⟨hv.p1, hv.p5, fun f hf => key f (List.mem_append_left _ hf), fun f hf => key f (List.mem_append_right _ hf), by omega, by omega⟩
abbrev eltM (ps : Met) : List M := sortM (ps.map (·.1))
def monC (ms xs : List M) : Int :=
  if codeL ms xs = 0 then
    match clo ms (gm ms 0).p with
    | none => 3
    | some ps => if xs.all (fun f => decide (f ∈ eltM ps)) then 0 else 4
  else codeL ms xs
theorem monC_code {ms xs : List M} (h : codeL ms xs ≠ 0) : monC ms xs = codeL ms xs := if_neg h
theorem monC_none {ms xs : List M} (h : codeL ms xs = 0) (hc : clo ms (gm ms 0).p = none) : monC ms xs = 3 := by simp [monC, h, hc]
theorem monC_in {ms xs : List M} {ps : Met} (h : codeL ms xs = 0) (hc : clo ms (gm ms 0).p = some ps) (hx : ∀ f ∈ xs, f ∈ eltM ps) : monC ms xs = 0 := by
  unfold monC
  rw [if_pos h, hc]
  simp only
  rw [if_pos]
  rw [List.all_eq_true]
  exact fun f hf => decide_eq_true (hx f hf)
theorem monC_out {ms xs : List M} {ps : Met} {f : M} (h : codeL ms xs = 0) (hc : clo ms (gm ms 0).p = some ps) (hf : f ∈ xs) (hn : f ∉ eltM ps) : monC ms xs = 4 := by
  unfold monC
  rw [if_pos h, hc]
  simp only
  rw [if_neg]
  rw [List.all_eq_true]
  exact fun h => hn (of_decide_eq_true (h f hf))
theorem monoidOf_any (A1 A2 : Option Addr) (n1 c1 n2 c2 : Nat) (ms xs : List M) (w : World) (hx : RdM w w.heap.size A1 ms) (hy : RdM w w.heap.size A2 xs) (hn : ms.length = n1) (hm : xs.length = n2)
    (hA1 : A1 = none → n1 = 0 ∧ c1 = 0) (hA2 : A2 = none → n2 = 0 ∧ c2 = 0) (hb : n1 + n2 < 1073741824) :
    Calls Tryz.prog 66 #[.slice A1 n1 c1, .slice A2 n2 c2] w fun e w' => ∃ r v, e = .returned (.tuple #[r, v, I (monC ms xs)]) ∧ Below w.heap.size w w' ∧ (monC ms xs ≠ 0 → r = .pointer none ∧ v = .slice none 0 0) ∧
      ∀ ps, clo ms (gm ms 0).p = some ps → monC ms xs = 0 → ∃ g, r = .pointer (some ⟨g, 0, none⟩) ∧ MonAt (gm ms 0).p w.heap.size g (eltM ps) ((eltM ps).map (wordOf ps)) w' ∧ OwI 3 w' w.heap.size v (xs.map fun f => (ix (eltM ps) f : Int)) := by
  have Hx := Lib.hid hx
  have Hy := Lib.hid hy
  have Hn := Lib.hid hn
  have Hm := Lib.hid hm
  have HA1 := Lib.hid hA1
  have HA2 := Lib.hid hA2
  clear hx hy hn hm hA1 hA2
  go_enter Tryz.func66, Tryz.ntmps66
  go_wp2_with fail
  refine (listCode_any A1 A2 n1 c1 n2 c2 ms xs _ Hx.out Hy.out Hn.out Hm.out HA1.out HA2.out hb).mono ?_
  rintro e w1 ⟨rfl, hb1⟩
  by_cases hc : codeL ms xs = 0
  · obtain ⟨q1, q2, q3, q4, q5, q6⟩ := codeL_pts' hc
    have Hc := Lib.hid hc
    have H3 := Lib.hid q3
    have H4 := Lib.hid q4
    have Hb1 := Lib.hid hb1
    rw [hc]
    have hx1 := Rd.below Hx.out hb1
    obtain ⟨b, off, rfl, hbb, x0, x1, x2, x3, x4, x5⟩ := RdM.at_ hx1 (k := 0) (by omega)
    rw [Nat.zero_mul, Nat.add_zero] at x0
    have hl1 : 0 < n1 := by have := Hn.out; omega
    clear hc q3 q4 hb1 hx1 x1 x2 x3 x4 x5
    go_wp2_with fail
    refine (newMonoid_any (some ⟨b, off, none⟩) n1 c1 ms (gm ms 0).p w1 (Rd.more (Rd.below Hx.out Hb1.out) Hb1.out.size) Hn.out (by omega) q1 q2 H3.out).mono ?_
    rintro e w2 ⟨r, rfl, hb2, _, hsome⟩
    have Hb2 := Lib.hid (Hb1.out.trans (hb2.mono Hb1.out.size))
    clear x0
    cases hclo : clo ms (gm ms 0).p with
    | none =>
      have hcl : cloC ms (gm ms 0).p = 3 := by rw [cloC, hclo]; rfl
      have hmc := monC_none Hc.out hclo
      rw [hcl]
      clear hsome hb2
      go_wp2
      go_ret3
      exact ⟨_, _, by rw [hmc] <;> rfl, Hb2.out, fun _ => ⟨rfl, rfl⟩, fun ps h => (by rw [hclo] at h; cases h)⟩
    | some ps =>
      have hcl : cloC ms (gm ms 0).p = 0 := by rw [cloC, hclo]; rfl
      obtain ⟨g, rfl, hMA⟩ := hsome ps hclo
      rw [hcl]
      obtain ⟨E, hE⟩ : ∃ E, E = sortM (ps.map (·.1)) := ⟨_, rfl⟩
      rw [← hE] at hMA
      have hgd := (clo_good hclo).1
      have hEl : E.length ≤ 300 := by rw [hE, sortM_length hgd.nd, List.length_map]; exact hgd.len
      have HMA := Lib.hid hMA
      have HE := Lib.hid hE
      have Hclo := Lib.hid hclo
      have hs1 := Hb1.out.size
      have hs2 := hb2.size
      clear hsome hb2 hMA hE hcl hgd hclo
      go_wp2_with fail
      go_loopw [34, 10] (fun i v wr => ∃ r : Nat, i = .int .i64 r ∧ r ≤ n2 ∧ Below w2.heap.size w2 wr ∧ OwI 3 wr w2.heap.size v ((xs.take r).map fun f => (ix E f : Int)) ∧ ∀ f ∈ xs.take r, f ∈ E) (fun i _ _ => n2 - (intOf i).toNat)
      case atStart => exact ⟨0, rfl, by omega, Below.refl _ _, by simpa using OwI.nil_, by simp⟩
      case round =>
        obtain ⟨r, rfl, hr, hb, ho, hin⟩ := hrel
        have Hb := Lib.hid hb
        have Hin := Lib.hid hin
        have hlen : (List.map (fun f => (ix E f : Int)) (xs.take r)).length = r := by rw [List.length_map, List.length_take, Hm.out]; omega
        obtain ⟨A, cA, hv, _⟩ := ho.form
        rw [hlen] at hv
        subst hv
        have Ho := Lib.hid ho
        have Hlen := Lib.hid hlen
        have hsz := hb.size
        clear hb ho hin hlen
        by_cases hrl : r < n2
        · have hrE : (r : Int) < (n2 : Int) := by omega
          obtain ⟨b2, off2, rfl, hbb2, x0, x1, x2, x3, x4, x5⟩ := RdM.at_ (Rd.below (Rd.below Hy.out Hb2.out) (Hb.out.mono Hb2.out.size)) (k := r) (by rw [Hm.out]; exact hrl)
          obtain ⟨f, hf⟩ : ∃ f, f = gm xs r := ⟨_, rfl⟩
          rw [← hf] at x0 x1 x2 x3 x4 x5
          have hfx : f ∈ xs := by rw [hf]; exact gm_mem (by rw [Hm.out]; exact hrl)
          have hvf := (H4.out f hfx).1
          have Hpf := Lib.hid (H4.out f hfx).2
          have htk : xs.take (r + 1) = xs.take r ++ [f] := by rw [List.take_add_one, hf, gm_eq (by rw [Hm.out]; exact hrl), List.getElem?_eq_getElem (by rw [Hm.out]; exact hrl)]; rfl
          have Htk := Lib.hid htk
          have Hfx := Lib.hid hfx
          clear hf htk hfx
          go_wp2_with fail
          obtain ⟨wb, hwb⟩ : ∃ wb, wb = wr.alloc (.cells (mc f) 31) := ⟨_, rfl⟩
          have hwbs : wb.heap.size = wr.heap.size + 1 := by rw [hwb]; simp
          have Hbb := Lib.hid (Hb.out.alloc hsz (.cells (mc f) 31))
          have Hob := Lib.hid (Ho.out.alloc (.cells (mc f) 31))
          rw [← hwb] at Hbb Hob ⊢
          clear hwb x0 x1 x2 x3 x4 x5 Ho Hb
          refine (place_any f wb (HMA.out.below Hbb.out (Nat.le_refl _)) hEl hvf Hpf.out).mono ?_
          rintro e w3 ⟨rfl, hb3⟩
          have Hb3 := Lib.hid (Hbb.out.trans (hb3.mono Hbb.out.size))
          have Ho3 := Lib.hid (Hob.out.below hb3 (Nat.le_refl _))
          have hs3 := hb3.size
          clear hb3 Hbb Hob Hpf
          by_cases hfE : f ∈ E
          · have hpl : plOf E f - 1 = (ix E f : Int) := by rw [plOf_in hfE]; omega
            rw [hpl]
            have hxb : (ix E f : Int) < 300 := by have := ix_lt hfE; omega
            have HfE := Lib.hid hfE
            obtain ⟨x, hx⟩ : ∃ x, x = ix E f := ⟨_, rfl⟩
            rw [← hx] at hxb ⊢
            have Hxx := Lib.hid hx
            have hxn : ¬ ((x : Int) < 0) := by omega
            have hs4 : w2.heap.size ≤ w3.heap.size := by omega
            clear hfE hpl hx
            go_wp2_with (at_builtin; refine wpList_pushN rfl (.tmp 43) (.tmp 45) rfl w2.heap.size (.slice A r cA) _ rfl (Ho3.out.alloc _) r Hlen.out w3.heap.size 1 x rfl ((Blk.new _ _ _).cell 0) (by omega) (by simp; omega) (w3.heap.size + 1) (by simp) ?_; intro g' cap w4 ho' hgr hg' hlt')
            have Hb4 := Lib.hid ((Ho3.out.alloc (.cells #[I x] 3)).bel (Hb3.out.alloc hs4 _) hgr (Nat.le_refl _) (by simp; omega))
            have hn4 : List.map (fun f => (ix E f : Int)) (xs.take r) ++ [(x : Int)] = List.map (fun f => (ix E f : Int)) (xs.take (r + 1)) := by rw [Htk.out, List.map_append, Hxx.out]; rfl
            rw [hn4] at ho'
            have Ho4 := Lib.hid ho'
            clear ho' hgr hg' hlt' hn4
            go_wp2
            go_roundw
            case rel => exact ⟨r + 1, by go_num, by omega, Hb4.out, Ho4.out, fun f' hf' => by
              rw [Htk.out] at hf'
              rcases List.mem_append.1 hf' with h | h
              · exact Hin.out f' h
              · rw [List.mem_singleton.1 h]; exact HfE.out⟩
            case measure => simp [intOf]; omega
          · have hpl : plOf E f - 1 = -1 := by rw [plOf_out hfE]; rfl
            rw [hpl]
            have hmc : monC ms xs = 4 := monC_out Hc.out Hclo.out Hfx.out (by have h := hfE; rw [HE.out] at h; exact h)
            have Hbe := Lib.hid (Hb2.out.trans (Hb3.out.mono Hb2.out.size))
            clear hfE hpl
            go_wp2
            go_ret3
            exact ⟨_, _, by rw [hmc] <;> rfl, Hbe.out, fun _ => ⟨rfl, rfl⟩, fun ps' _ h => by rw [hmc] at h; cases h⟩
        · obtain rfl : r = n2 := by omega
          have hrl' : ¬ ((r : Int) < (r : Int)) := by omega
          have htk : xs.take r = xs := List.take_of_length_le (by rw [Hm.out]; exact Nat.le_refl _)
          rw [htk] at Hin Ho
          have Hmc : Hid (monC ms xs = 0) := monC_in Hc.out Hclo.out (by have h := Hin.out; rw [HE.out] at h; exact h)
          have HM3 := Lib.hid (HMA.out.below Hb.out (Nat.le_refl _))
          have Hbe := Lib.hid (Hb2.out.trans (Hb.out.mono Hb2.out.size))
          clear htk
          go_wp2
          go_ret3
          refine ⟨_, _, by rw [Hmc.out] <;> rfl, Hbe.out, fun h => absurd Hmc.out h, fun ps' h _ => ?_⟩
          rw [Hclo.out] at h
          injection h with h
          subst h
          have hE := HE.out
          subst hE
          exact ⟨g, rfl, HM3.out.from hs1, Ho.out.mono (by omega)⟩
  · go_wp2
    go_ret3
    exact ⟨_, _, by rw [monC_code hc] <;> rfl, hb1, fun _ => ⟨rfl, rfl⟩, fun ps _ h => absurd (by rw [monC_code hc] at h; exact h) hc⟩
end Go.Proofs.YtchjegojcpbfpaaGreat

namespace Go.Proofs.YtchjegojcpbfpaaGreat
open Go.RowKit
set_option maxRecDepth 100000
set_option linter.unusedSimpArgs false
def elR (ms xs : List M) : List M := if codeL ms xs = 0 then (match clo ms (gm ms 0).p with | none => [] | some ps => eltM ps) else []
def elC (ms xs : List M) : Int := if codeL ms xs = 0 then (if (clo ms (gm ms 0).p).isSome then 0 else 3) else codeL ms xs
theorem elC_code {ms xs : List M} (h : codeL ms xs ≠ 0) : elC ms xs = codeL ms xs := if_neg h
theorem elR_code {ms xs : List M} (h : codeL ms xs ≠ 0) : elR ms xs = [] := if_neg h
theorem elC_none {ms xs : List M} (h : codeL ms xs = 0) (hc : clo ms (gm ms 0).p = none) : elC ms xs = 3 := by simp [elC, h, hc]
theorem elR_none {ms xs : List M} (h : codeL ms xs = 0) (hc : clo ms (gm ms 0).p = none) : elR ms xs = [] := by simp [elR, h, hc]
theorem elC_some {ms xs : List M} {ps : Met} (h : codeL ms xs = 0) (hc : clo ms (gm ms 0).p = some ps) : elC ms xs = 0 := by simp [elC, h, hc]
theorem elR_some {ms xs : List M} {ps : Met} (h : codeL ms xs = 0) (hc : clo ms (gm ms 0).p = some ps) : elR ms xs = eltM ps := by simp [elR, h, hc]
structure El (ms xs E : List M) (ps : Met) : Prop where
  code : codeL ms xs = 0
  clo : clo ms (gm ms 0).p = some ps
  eq : E = eltM ps
  r : elR ms xs = E
  p1 : 1 ≤ (gm ms 0).p
  p5 : (gm ms 0).p ≤ 5
  G : Pts (gm ms 0).p ms
  X : Pts (gm ms 0).p xs
  n1 : 1 ≤ ms.length
  n6 : ms.length ≤ 6
  mnd : Mnd (gm ms 0).p E
  mem : ∀ x, x ∈ E ↔ Mon ms (gm ms 0).p x
  len : E.length ≤ 300
  pos : 0 < E.length
theorem elC_el {ms xs : List M} (h : elC ms xs = 0) : ∃ E ps, El ms xs E ps := by
  by_cases hc : codeL ms xs = 0
  · obtain ⟨q1, q2, q3, q4, q5, q6⟩ := codeL_pts' hc
    cases hk : clo ms (gm ms 0).p with
    | none => rw [elC_none hc hk] at h; cases h
    | some ps =>
      have hm := clo_mnd q1 q2 q3 hk
      exact ⟨_, ps, hc, hk, rfl, elR_some hc hk, q1, q2, q3, q4, q5, q6, hm, fun x => by rw [sortM_mem, clo_mem hk], by rw [sortM_length (clo_good hk).1.nd, List.length_map]; exact (clo_good hk).1.len, hm.pos⟩
  · rw [elC_code hc] at h; exact absurd h hc
theorem elC_mon {ms xs : List M} (h : elC ms xs ≠ 0) : monC ms xs = elC ms xs := by
  by_cases hc : codeL ms xs = 0
  · cases hk : clo ms (gm ms 0).p with
    | none => rw [monC_none hc hk, elC_none hc hk]
    | some ps => exact absurd (elC_some hc hk) h
  · rw [monC_code hc, elC_code hc]
theorem El.mon {ms xs E : List M} {ps : Met} (h : El ms xs E ps) : monC ms xs = if xs.all (fun f => decide (f ∈ E)) then 0 else 4 := by
  unfold monC
  rw [if_pos h.code, h.clo, h.eq]
theorem El.mon0 {ms xs E : List M} {ps : Met} (h : El ms xs E ps) (hx : ∀ f ∈ xs, f ∈ E) : monC ms xs = 0 := by
  rw [h.mon, if_pos (by rw [List.all_eq_true]; exact fun f hf => decide_eq_true (hx f hf))]
theorem elR_bad {ms xs : List M} (h : elC ms xs ≠ 0) : elR ms xs = [] := by
  by_cases hc : codeL ms xs = 0
  · cases hk : clo ms (gm ms 0).p with
    | none => exact elR_none hc hk
    | some ps => exact absurd (elC_some hc hk) h
  · exact elR_code hc
def RetS (res : List M) (code : Int) (w : World) (e : Ending) (w' : World) : Prop := ∃ A c, e = .returned (.tuple #[.slice A res.length c, I code]) ∧ RdM w' w'.heap.size A res ∧ Below w.heap.size w w'
theorem RetS.mk {res : List M} {code : Int} {w w' : World} {e : Ending} (A : Option Addr) (c : Nat) (h : e = .returned (.tuple #[.slice A res.length c, I code])) (hr : RdM w' w'.heap.size A res) (hb : Below w.heap.size w w') : RetS res code w e w' := ⟨A, c, h, hr, hb⟩
def RetM (res : List M) (code : Int) (w : World) (e : Ending) (w' : World) : Prop := ∃ v, e = .returned (.tuple #[v, I code]) ∧ OwM 31 w' w.heap.size v res ∧ Below w.heap.size w w'
theorem RetM.mk {res : List M} {code : Int} {w w' : World} {e : Ending} (v : Value) (h : e = .returned (.tuple #[v, I code])) (hr : OwM 31 w' w.heap.size v res) (hb : Below w.heap.size w w') : RetM res code w e w' := ⟨v, h, hr, hb⟩
theorem RetM.toS {res : List M} {code : Int} {w w' : World} {e : Ending} (h : RetM res code w e w') : RetS res code w e w' := by
  obtain ⟨v, rfl, ho, hb⟩ := h
  obtain ⟨A, c, rfl, hr⟩ := ho.form
  exact ⟨A, c, rfl, hr, hb⟩
def RetSI (res : List Int) (code : Int) (w : World) (e : Ending) (w' : World) : Prop := ∃ A c, e = .returned (.tuple #[.slice A res.length c, I code]) ∧ RdI w' w'.heap.size A res ∧ Below w.heap.size w w'
theorem RetSI.mk {res : List Int} {code : Int} {w w' : World} {e : Ending} (A : Option Addr) (c : Nat) (h : e = .returned (.tuple #[.slice A res.length c, I code])) (hr : RdI w' w'.heap.size A res) (hb : Below w.heap.size w w') : RetSI res code w e w' := ⟨A, c, h, hr, hb⟩
def RetI (res : List Int) (code : Int) (w : World) (e : Ending) (w' : World) : Prop := ∃ v, e = .returned (.tuple #[v, I code]) ∧ OwI 2 w' w.heap.size v res ∧ Below w.heap.size w w'
theorem RetI.mk {res : List Int} {code : Int} {w w' : World} {e : Ending} (v : Value) (h : e = .returned (.tuple #[v, I code])) (hr : OwI 2 w' w.heap.size v res) (hb : Below w.heap.size w w') : RetI res code w e w' := ⟨v, h, hr, hb⟩
theorem RetI.toS {res : List Int} {code : Int} {w w' : World} {e : Ending} (h : RetI res code w e w') : RetSI res code w e w' := by
  obtain ⟨v, rfl, ho, hb⟩ := h
  obtain ⟨A, c, rfl, hr⟩ := ho.form
  exact ⟨A, c, rfl, hr, hb⟩
theorem l02Elements_any (A1 A2 : Option Addr) (n1 c1 n2 c2 : Nat) (ms xs : List M) (w : World) (hx : RdM w w.heap.size A1 ms) (hy : RdM w w.heap.size A2 xs) (hn : ms.length = n1) (hm : xs.length = n2)
    (hb : n1 < 1073741824) (hb2 : n2 < 1073741824) :
    Calls Tryz.prog 52 #[.slice A1 n1 c1, .slice A2 n2 c2] w (RetS (elR ms xs) (elC ms xs) w) := by
  have Hx := Lib.hid hx
  have Hy := Lib.hid hy
  have Hn := Lib.hid hn
  have Hm := Lib.hid hm
  clear hx hy hn hm
  go_enter Tryz.func52, Tryz.ntmps52
  go_wp2_with fail
  refine (l02Given_any A1 A2 n1 c1 n2 c2 ms xs _ Hx.out Hy.out Hn.out Hm.out hb hb2).mono ?_
  rintro e w1 ⟨rfl, hb1⟩
  by_cases hc : codeL ms xs = 0
  · obtain ⟨q1, q2, q3, q4, q5, q6⟩ := codeL_pts' hc
    have Hc := Lib.hid hc
    have H3 := Lib.hid q3
    have Hb1 := Lib.hid hb1
    rw [hc]
    have hx1 := Rd.below Hx.out hb1
    obtain ⟨b, off, rfl, hbb, x0, x1, x2, x3, x4, x5⟩ := RdM.at_ hx1 (k := 0) (by omega)
    rw [Nat.zero_mul, Nat.add_zero] at x0
    have hl1 : 0 < n1 := by have := Hn.out; omega
    have hz1 := Hb1.out.size
    clear hc q3 q4 hb1 hx1 x1 x2 x3 x4 x5
    go_wp2_with fail
    refine (l02Closed_any (some ⟨b, off, none⟩) n1 c1 ms (gm ms 0).p w1 (Rd.more (Rd.below Hx.out Hb1.out) Hb1.out.size) Hn.out (by omega) q1 q2 H3.out).mono ?_
    rintro e w2 ⟨v1, v2, rfl, hb2', hsome⟩
    have Hb2 := Lib.hid (Hb1.out.trans (hb2'.mono Hb1.out.size))
    have hz2 := hb2'.size
    clear x0
    cases hclo : clo ms (gm ms 0).p with
    | none =>
      have Hr := Lib.hid (elR_none Hc.out hclo)
      have Hmc := Lib.hid (elC_none Hc.out hclo)
      rw [show (none : Option Met).isSome = false from rfl]
      clear hsome hb2' hclo
      go_wp2
      go_ret2
      exact .mk none 0 (by rw [Hmc.out, Hr.out] <;> rfl) (by rw [Hr.out]; exact Rd.nil_) Hb2.out
    | some ps =>
      have Hr := Lib.hid (elR_some Hc.out hclo)
      have Hmc := Lib.hid (elC_some Hc.out hclo)
      obtain ⟨hO, _⟩ := hsome ps hclo
      have hgd := (clo_good hclo).1
      have hlen := hgd.len
      have HPv : Hid (∀ x ∈ ps.map (·.1), Valid x) := fun x hx => by
        obtain ⟨q, hq, rfl⟩ := List.mem_map.1 hx
        exact ((hgd.mon q hq).ok q1 q2 H3.out).1
      have Hnd := Lib.hid hgd.nd
      obtain ⟨P, hP⟩ : ∃ P, P = ps.map (·.1) := ⟨_, rfl⟩
      have HP := Lib.hid hP
      obtain ⟨N, hN⟩ : ∃ N, N = ps.length := ⟨_, rfl⟩
      have HN : Hid (P.length = N) := by show _ = _; rw [hP, hN, List.length_map]
      rw [← hP] at hO HPv Hnd
      rw [← hN] at hlen
      obtain ⟨A3, c3, e3, hr3⟩ := hO.form
      rw [HN.out] at e3
      subst e3
      have HO := Lib.hid hr3
      rw [show (some ps : Option Met).isSome = true from rfl]
      clear hsome hb2' hclo hO hr3 hgd hP hN
      go_wp2_with fail
      go_loopw [10, 11] (fun v i wr => ∃ (r : Nat) (A : Addr) (c : Nat), i = .int .i64 r ∧ r ≤ N ∧ v = .slice (some A) (sortM (P.take r)).length c ∧ (sortM (P.take r)).length ≤ c ∧ RdM wr wr.heap.size (some A) (sortM (P.take r)) ∧ Below w2.heap.size w2 wr) (fun _ i _ => N - (intOf i).toNat)
      case atStart =>
        refine ⟨0, ⟨w2.heap.size, 0, none⟩, 0, rfl, by omega, rfl, Nat.le_refl _, Rd.nil_, (Below.refl _ _).alloc (Nat.le_refl _) _⟩
      case round =>
        obtain ⟨r, A, c, rfl, hr, rfl, hc, hR, hb⟩ := hrel
        have HR := Lib.hid hR
        have Hb := Lib.hid hb
        have Hcc := Lib.hid hc
        have hz := hb.size
        have hsl : (sortM (P.take r)).length = r := by
          rw [sortM_length (Hnd.out.sublist (List.take_sublist _ _)), List.length_take, HN.out]; omega
        have Hsl := Lib.hid hsl
        rw [hsl]
        clear hR hb hc hsl
        by_cases hrl : r < N
        · have hrE : (r : Int) < (N : Int) := by omega
          obtain ⟨b2, off2, rfl, hbb2, h6⟩ := RdM.at_ (Rd.below HO.out Hb.out) (k := r) (by rw [HN.out]; exact hrl)
          obtain ⟨f, hf⟩ : ∃ f, f = gm P r := ⟨_, rfl⟩
          rw [← hf] at h6
          have hvf : Valid f := HPv.out f (by rw [hf]; exact gm_mem (by rw [HN.out]; exact hrl))
          have htk : P.take (r + 1) = P.take r ++ [f] := by rw [List.take_add_one, hf, gm_eq (by rw [HN.out]; exact hrl), List.getElem?_eq_getElem (by rw [HN.out]; exact hrl)]; rfl
          have HEv : Hid (∀ x ∈ sortM (P.take r), Valid x) := fun x hx => HPv.out x (List.mem_of_mem_take (sortM_mem.1 hx))
          have hins : insM f (sortM (P.take r)) = sortM (P.take (r + 1)) := by rw [htk, sortM_snoc]
          have hsl2 : (sortM (P.take (r + 1))).length = r + 1 := by
            rw [sortM_length (Hnd.out.sublist (List.take_sublist _ _)), List.length_take, HN.out]; omega
          have Hins := Lib.hid hins
          have Hsl2 := Lib.hid hsl2
          obtain ⟨x0, x1, x2, x3, x4, x5⟩ := h6
          clear hf htk hins hsl2
          go_wp2_with fail
          refine (l01Put_any A r c (sortM (P.take r)) f _ HR.out Hsl.out (by have := Hcc.out; have := Hsl.out; omega) (by omega) (sortM_asc _) HEv.out hvf).mono ?_
          rintro e w4 ⟨A', c', rfl, hc', hr', _, hb'⟩
          rw [Hins.out] at hc' hr' ⊢
          have Hr' := Lib.hid hr'
          have Hc' := Lib.hid hc'
          have Hb' := Lib.hid (Hb.out.trans (hb'.mono hz))
          clear hc' hr' hb' x0 x1 x2 x3 x4 x5
          go_wp2
          go_roundw
          case rel => exact ⟨r + 1, A', c', by go_num, by omega, rfl, Hc'.out, Hr'.out, Hb'.out⟩
          case measure => simp [intOf]; omega
        · obtain rfl : r = N := by omega
          have hrl' : ¬ ((r : Int) < (r : Int)) := by omega
          have htk : P.take r = P := List.take_of_length_le (by rw [HN.out]; exact Nat.le_refl _)
          rw [htk] at HR Hsl
          have HE : Hid (elR ms xs = sortM P) := by show _ = _; rw [Hr.out, HP.out]
          have Hbe := Lib.hid (Hb2.out.trans (Hb.out.mono Hb2.out.size))
          clear htk
          go_wp2
          go_ret2
          exact .mk (some A) c (by rw [Hmc.out, HE.out, Hsl.out] <;> rfl) (by rw [HE.out]; exact HR.out) Hbe.out
  · have Hr := Lib.hid (elR_code hc)
    have Hmc := Lib.hid (elC_code hc)
    go_wp2
    go_ret2
    exact .mk none 0 (by rw [Hmc.out, Hr.out] <;> rfl) (by rw [Hr.out]; exact Rd.nil_) hb1
set_option maxRecDepth 100000
set_option linter.unusedSimpArgs false
def M.upd (m : M) (j : Nat) (z : Int) : M :=
  match j with
  | 0 => { m with p := z }
  | 1 => { m with t0 := z }
  | 2 => { m with t1 := z }
  | 3 => { m with t2 := z }
  | 4 => { m with t3 := z }
  | 5 => { m with t4 := z }
  | _ => m
theorem mcs_upd (j : Nat) (hj : j < 6) (z : Int) : ∀ {ms : List M} {k : Nat}, k < ms.length → mcs (ms.set k ((gm ms k).upd j z)) = (mcs ms).set (k * 6 + j) (I z)
  | [], _, h => by simp at h
  | m0 :: ms, 0, _ => by
    match j, hj with
    | 0, _ => rfl
    | 1, _ => rfl
    | 2, _ => rfl
    | 3, _ => rfl
    | 4, _ => rfl
    | 5, _ => rfl
  | m0 :: ms, k + 1, h => by
    have ih := mcs_upd j hj z (ms := ms) (k := k) (by simpa using h)
    rw [gm_cons_succ, List.set_cons_succ, mcs_cons, ih, mcs_cons]
    have e : (k + 1) * 6 + j = k * 6 + j + 6 := by omega
    rw [e]
    rfl
theorem OwM.put {e : TypeId} {w : World} {B g n c : Nat} {ms : List M} (h : OwM e w B (.slice (some ⟨g, 0, none⟩) n c) ms) {k j : Nat} (hk : k < ms.length) (hj : j < 6) (z : Int) : OwM e (w.setCell ⟨g, k * 6 + j, none⟩ (I z)) B (.slice (some ⟨g, 0, none⟩) n c) (ms.set k ((gm ms k).upd j z)) := by
  rcases h.2 with ⟨he, h0⟩ | ⟨g', cap, cur, he, hg, hh, hn, hm, hs, ht⟩
  · omega
  · injection he with e1 e2 e3
    injection e1 with e1
    injection e1 with e1 _
    subst e1 e3
    refine ⟨by rw [mcs_length], .inr ⟨g, c, cur.setIfInBounds (k * 6 + j) (I z), by rw [e2]; simp, hg, ?_, by simpa using hn, hm, by simpa using hs, ?_⟩⟩
    · simp [World.setCell, Array.getElem?_modify, hh]
    · rw [Array.toList_setIfInBounds, List.take_set, List.length_set, ht, mcs_upd j hj z hk]
set_option maxRecDepth 100000
/-! ### regions -/
section
variable {ops : Array Oper}
end
/-! ### a region that copies the list and calls -/
structure GC where
  v : Value
  r : Value
structure SC (w1 : World) (ms : List M) (R : Value → World → Prop) (b1 b4 : Bool) (c : GC) (w : World) : Prop where
  bel : Below w1.heap.size w1 w
  a : b1 = true → b4 = false → OwM 31 w w1.heap.size c.v ms
  r : b4 = true → R c.r w
section
variable {w1 w w' : World} {ms : List M} {R : Value → World → Prop} {b1 b4 : Bool} {c : GC}
theorem SC.start (hb : Below w1.heap.size w1 w) : SC w1 ms R false false c w := ⟨hb, fun h => (by cases h), fun h => (by cases h)⟩
theorem SC.below (hR : ∀ r w w', R r w → Below w.heap.size w w' → R r w') (h : SC w1 ms R b1 b4 c w) (hb : Below w.heap.size w w') : SC w1 ms R b1 b4 c w' :=
  ⟨h.bel.trans (hb.mono h.bel.size), fun e1 e2 => (h.a e1 e2).below hb (Nat.le_refl _), fun e => hR _ _ _ (h.r e) hb⟩
theorem SC.fin (h : SC w1 ms R true true c w) : R c.r w ∧ Below w1.heap.size w1 w := ⟨h.r rfl, h.bel⟩
end
def RR6 (res : List M) (r : Value) (w : World) : Prop := ∃ A c, r = .slice A res.length c ∧ RdM w w.heap.size A res
def RR1 (res : List Int) (r : Value) (w : World) : Prop := ∃ A c, r = .slice A res.length c ∧ RdI w w.heap.size A res
theorem RR6.below {res : List M} (r : Value) (w w' : World) (h : RR6 res r w) (hb : Below w.heap.size w w') : RR6 res r w' := by
  obtain ⟨A, c, e, hr⟩ := h
  exact ⟨A, c, e, Rd.more (Rd.below hr hb) hb.size⟩
theorem RR1.below {res : List Int} (r : Value) (w w' : World) (h : RR1 res r w) (hb : Below w.heap.size w w') : RR1 res r w' := by
  obtain ⟨A, c, e, hr⟩ := h
  exact ⟨A, c, e, Rd.more (Rd.below hr hb) hb.size⟩
theorem RetS.out {res : List M} {code : Int} {w w' : World} {e : Ending} (h : RetS res code w e w') : ∃ r, e = .returned (.tuple #[r, I code]) ∧ RR6 res r w' ∧ Below w.heap.size w w' := by
  obtain ⟨A, c, rfl, hr, hb⟩ := h
  exact ⟨_, rfl, ⟨A, c, rfl, hr⟩, hb⟩
theorem RetSI.out {res : List Int} {code : Int} {w w' : World} {e : Ending} (h : RetSI res code w e w') : ∃ r, e = .returned (.tuple #[r, I code]) ∧ RR1 res r w' ∧ Below w.heap.size w w' := by
  obtain ⟨A, c, rfl, hr, hb⟩ := h
  exact ⟨_, rfl, ⟨A, c, rfl, hr⟩, hb⟩
theorem OwM.rdA {e : TypeId} {w : World} {B n c : Nat} {A : Option Addr} {ms : List M} (h : OwM e w B (.slice A n c) ms) : RdM w w.heap.size A ms := by
  obtain ⟨A', c', e, hr⟩ := h.form
  injection e with e1 _ _
  subst e1
  exact hr
theorem OwI.rdA {e : TypeId} {w : World} {B n c : Nat} {A : Option Addr} {zs : List Int} (h : OwI e w B (.slice A n c) zs) : RdI w w.heap.size A zs := by
  obtain ⟨A', c', e, hr⟩ := h.form
  injection e with e1 _ _
  subst e1
  exact hr
/-! ### the state of a statement's walk -/
theorem ownsRow_keep {w w' : World} {B : Nat} {e : TypeId} {k : Nat} {v : Value} {n : Nat} {cs : List Value} (h : w.ownsRow B e k v n cs) (hk : ∀ g, v.ownBlock = some g → w'.heap[g]? = w.heap[g]?) : w'.ownsRow B e k v n cs := by
  refine ⟨h.1, ?_⟩
  rcases h.2 with hn | ⟨g, cap, cur, rfl, hg, hh, rest⟩
  · exact .inl hn
  · exact .inr ⟨g, cap, cur, rfl, hg, by rw [hk g rfl]; exact hh, rest⟩
structure LS (w : World) (A : Option Addr) (ms : List M) (bxs : List (Nat × M)) (k0 B0 : Nat) (A0 : Option Addr) (n0 : Nat) (cs0 : List Value) (bX : Nat) (vX : Value) (xs : List M) (bG : Nat) (eG : TypeId) (kG : Nat) (vG : Value) (nG : Nat) (csG : List Value) (wc : World) : Prop where
  inp : RdM w w.heap.size A ms
  bel : Below w.heap.size w wc
  box : ∀ p ∈ bxs, Six wc p.1 p.2 ∧ w.heap.size ≤ p.1 ∧ p.1 < B0
  r0 : Rd k0 wc B0 A0 n0 cs0
  ox : OwM 31 wc bX vX xs
  og : wc.ownsRow bG eG kG vG nG csG
  h0 : w.heap.size ≤ B0
  h1 : B0 ≤ bX
  h2 : ∀ g, vX.ownBlock = some g → g < bG
  h3 : bX ≤ bG
  h4 : bG ≤ wc.heap.size
section
variable {w wc w' : World} {A : Option Addr} {ms : List M} {bxs : List (Nat × M)} {k0 B0 : Nat} {A0 : Option Addr} {n0 : Nat} {cs0 : List Value} {bX : Nat} {vX : Value} {xs : List M} {bG : Nat} {eG : TypeId} {kG : Nat} {vG : Value} {nG : Nat} {csG : List Value}
theorem LS.start (hi : RdM w w.heap.size A ms) (hb : Below w.heap.size w wc) (hx : ∀ p ∈ bxs, Six wc p.1 p.2 ∧ w.heap.size ≤ p.1) : LS w A ms bxs 6 wc.heap.size none 0 [] wc.heap.size (.slice none 0 0) [] wc.heap.size 31 6 (.slice none 0 0) 0 [] wc where
  inp := hi
  bel := hb
  box := fun p hp => ⟨(hx p hp).1, (hx p hp).2, (hx p hp).1.lt⟩
  r0 := Rd.nil_
  ox := OwM.nil_
  og := World.ownsRow_nil wc wc.heap.size 31 6
  h0 := hb.size
  h1 := Nat.le_refl _
  h2 := fun g hg => by cases hg
  h3 := Nat.le_refl _
  h4 := Nat.le_refl _
theorem LS.below (h : LS w A ms bxs k0 B0 A0 n0 cs0 bX vX xs bG eG kG vG nG csG wc) (hb : Below wc.heap.size wc w') : LS w A ms bxs k0 B0 A0 n0 cs0 bX vX xs bG eG kG vG nG csG w' where
  inp := h.inp
  bel := h.bel.trans (hb.mono h.bel.size)
  box := fun p hp => ⟨(h.box p hp).1.below hb (h.box p hp).1.lt, (h.box p hp).2⟩
  r0 := h.r0.below' hb (Nat.le_trans h.h1 (Nat.le_trans h.h3 h.h4))
  ox := h.ox.below hb (Nat.le_refl _)
  og := ownsRow_keep h.og fun g hg => hb.block g (World.ownsRow.lt h.og g hg).2
  h0 := h.h0
  h1 := h.h1
  h2 := h.h2
  h3 := h.h3
  h4 := Nat.le_trans h.h4 hb.size
theorem LS.list (h : LS w A ms bxs k0 B0 A0 n0 cs0 bX vX xs bG eG kG vG nG csG wc) : RdM wc wc.heap.size A ms := Rd.more (Rd.below h.inp h.bel) h.bel.size
theorem LS.res (h : LS w A ms bxs k0 B0 A0 n0 cs0 bX vX xs bG eG kG vG nG csG wc) : Rd k0 wc wc.heap.size A0 n0 cs0 := Rd.more h.r0 (Nat.le_trans h.h1 (Nat.le_trans h.h3 h.h4))
end
set_option maxRecDepth 100000
set_option linter.unusedSimpArgs false
theorem codeL_cases (ms xs : List M) : codeL ms xs = 0 ∨ codeL ms xs = 1 ∨ codeL ms xs = 2 := by
  unfold codeL
  split
  · split
    · exact .inl rfl
    · exact .inr (.inr rfl)
  · exact .inr (.inl rfl)
theorem elC_cases {ms xs : List M} : elC ms xs = 0 ∨ elC ms xs = 1 ∨ elC ms xs = 2 ∨ elC ms xs = 3 := by
  unfold elC
  split
  · split
    · exact .inl rfl
    · exact .inr (.inr (.inr rfl))
  · have := codeL_cases ms xs; omega
theorem elC_p {ms xs : List M} (h : elC ms xs ≠ 0) : 0 < elC ms xs ∧ elC ms xs < 4 := by
  have := elC_cases (ms := ms) (xs := xs); omega
theorem monC_nil (ms : List M) : monC ms [] = elC ms [] := by
  by_cases h : elC ms [] = 0
  · obtain ⟨E, ps, hE⟩ := elC_el h
    rw [h]
    exact hE.mon0 (by simp)
  · exact elC_mon h
theorem rd_one {w : World} {f : M} {b : Nat} (h : Six w b f) : RdM w w.heap.size (some ⟨b, 0, none⟩) [f] := by
  refine ⟨by simp [mcs], fun _ => ⟨b, 0, rfl, h.lt, fun j u hj => ?_⟩⟩
  obtain ⟨c0, c1, c2, c3, c4, c5⟩ := h
  rw [Nat.zero_add]
  simp only [mcs, List.flatMap_cons, List.flatMap_nil, List.append_nil] at hj
  match j, hj with
  | 0, hj => simp at hj; subst hj; exact c0
  | 1, hj => simp at hj; subst hj; exact c1
  | 2, hj => simp at hj; subst hj; exact c2
  | 3, hj => simp at hj; subst hj; exact c3
  | 4, hj => simp at hj; subst hj; exact c4
  | 5, hj => simp at hj; subst hj; exact c5
  | n + 6, hj => simp at hj
theorem SpecElementsOf_any (A : Option Addr) (n c : Nat) (ms : List M) (w : World) (hx : RdM w w.heap.size A ms) (hn : ms.length = n) (hb : n < 1073741824) :
    Calls Tryz.prog 36 #[.slice A n c] w (RetS (elR ms []) (elC ms []) w) := by
  have Hx := Lib.hid hx
  have Hn := Lib.hid hn
  clear hx hn
  go_enter Tryz.func36, Tryz.ntmps36
  go_wp2_with fail
  refine (l02Elements_any A none n c 0 0 ms [] _ Hx.out Rd.nil_ Hn.out rfl hb (by decide)).mono ?_
  rintro e w1 ⟨A', c', rfl, hr, hb1⟩
  have Hr := Lib.hid hr
  clear hr
  go_wp2
  go_ret2
  exact .mk A' c' rfl Hr.out hb1
theorem ImplElementsOf_any (A : Option Addr) (n c : Nat) (ms : List M) (w : World) (hx : RdM w w.heap.size A ms) (hn : ms.length = n) (hA : A = none → n = 0 ∧ c = 0) (hb : n < 536870912) :
    Calls Tryz.prog 35 #[.slice A n c] w (RetM (elR ms []) (elC ms []) w) := by
  have Hx := Lib.hid hx
  have Hn := Lib.hid hn
  have HA := Lib.hid hA
  have hcc := monC_nil ms
  clear hx hn hA
  by_cases hc : elC ms [] = 0
  · obtain ⟨E, ps, hE⟩ := elC_el hc
    have HE := Lib.hid hE
    rw [hc] at hcc
    have Hc := Lib.hid hc
    have Hcc := Lib.hid hcc
    clear hE hc hcc
    go_enter Tryz.func35, Tryz.ntmps35
    go_wp2_with fail
    refine (monoidOf_any A none n c 0 0 ms [] _ Hx.out Rd.nil_ Hn.out rfl HA.out (fun _ => ⟨rfl, rfl⟩) (by omega)).mono ?_
    rintro e w1 ⟨r, v, rfl, hb1, hr0, hs⟩
    obtain ⟨g, rfl, hM, _⟩ := hs ps HE.out.clo Hcc.out
    obtain ⟨_, ev, wv, pl, vs, hMo, _, hO, _⟩ := hM
    rw [Hcc.out]
    have c0 := hMo.c0
    have HO := Lib.hid hO
    have Hb := Lib.hid hb1
    obtain ⟨A', c', e', _⟩ := hO.form
    subst e'
    clear hMo hO hs hb1 hr0
    go_wp2
    go_ret2
    exact .mk _ (by rw [Hc.out] <;> rfl) (by rw [HE.out.r, HE.out.eq]; exact HO.out) Hb.out
  · have hR := elR_bad hc
    have HR := Lib.hid hR
    have Hcc := Lib.hid hcc
    obtain ⟨p0, p4⟩ := elC_p hc
    have hne : (elC ms [] != 0) = true := by simpa using hc
    clear hc hcc hR
    go_enter Tryz.func35, Tryz.ntmps35
    go_wp2_with fail
    refine (monoidOf_any A none n c 0 0 ms [] _ Hx.out Rd.nil_ Hn.out rfl HA.out (fun _ => ⟨rfl, rfl⟩) (by omega)).mono ?_
    rintro e w1 ⟨r, v, rfl, hb1, hr0, hs⟩
    rw [Hcc.out]
    have Hb := Lib.hid hb1
    clear hb1 hs hr0
    go_wp2
    go_ret2
    exact .mk _ rfl (by rw [HR.out]; exact OwM.nil_) Hb.out
theorem SpecSizeOf_any (A : Option Addr) (n c : Nat) (ms : List M) (w : World) (hx : RdM w w.heap.size A ms) (hn : ms.length = n) (hb : n < 1073741824) :
    Calls Tryz.prog 37 #[.slice A n c] w fun e w' => e = .returned (.tuple #[I (elR ms []).length, I (elC ms [])]) ∧ Below w.heap.size w w' := by
  have Hx := Lib.hid hx
  have Hn := Lib.hid hn
  clear hx hn
  by_cases hc : elC ms [] = 0
  · have Hc := Lib.hid hc
    clear hc
    go_enter Tryz.func37, Tryz.ntmps37
    go_wp2_with fail
    refine (l02Elements_any A none n c 0 0 ms [] _ Hx.out Rd.nil_ Hn.out rfl hb (by decide)).mono ?_
    rintro e w1 ⟨A', c', rfl, hr, hb1⟩
    rw [Hc.out]
    clear hr
    go_wp2
    go_ret2
    exact ⟨by rw [Hc.out] <;> rfl, hb1⟩
  · have hR := elR_bad hc
    have HR := Lib.hid hR
    have hne : (elC ms [] != 0) = true := by simpa using hc
    clear hc hR
    go_enter Tryz.func37, Tryz.ntmps37
    go_wp2_with fail
    refine (l02Elements_any A none n c 0 0 ms [] _ Hx.out Rd.nil_ Hn.out rfl hb (by decide)).mono ?_
    rintro e w1 ⟨A', c', rfl, hr, hb1⟩
    clear hr
    go_wp2
    go_ret2
    exact ⟨by rw [HR.out] <;> rfl, hb1⟩
theorem ImplSizeOf_any (A : Option Addr) (n c : Nat) (ms : List M) (w : World) (hx : RdM w w.heap.size A ms) (hn : ms.length = n) (hA : A = none → n = 0 ∧ c = 0) (hb : n < 536870912) :
    Calls Tryz.prog 29 #[.slice A n c] w fun e w' => e = .returned (.tuple #[I (elR ms []).length, I (elC ms [])]) ∧ Below w.heap.size w w' := by
  have Hx := Lib.hid hx
  have Hn := Lib.hid hn
  have HA := Lib.hid hA
  clear hx hn hA
  go_enter Tryz.func29, Tryz.ntmps29
  go_wp2_with fail
  refine (ImplElementsOf_any A n c ms _ Hx.out Hn.out HA.out hb).mono ?_
  rintro e w1 ⟨v, rfl, ho, hb1⟩
  obtain ⟨A', c', rfl, _⟩ := ho.form
  clear ho
  go_wp2
  go_ret2
  exact ⟨rfl, hb1⟩
/-! ### IsElement -/
def isElB (ms : List M) (f : M) : Bool := decide (elC ms [f] = 0) && decide (f ∈ elR ms [f])
theorem ImplIsElement_any (A : Option Addr) (n c : Nat) (ms : List M) (f : M) (w : World) (hx : RdM w w.heap.size A ms) (hn : ms.length = n) (hA : A = none → n = 0 ∧ c = 0) (hb : n < 536870912) :
    Calls Tryz.prog 27 #[.slice A n c, .agg (mc f)] w fun e w' => e = .returned (.tuple #[.bool (isElB ms f), I (elC ms [f])]) ∧ Below w.heap.size w w' := by
  obtain ⟨wb, hwb⟩ : ∃ wb, wb = (w.alloc (.cells (mc f) 31)).alloc (.cells (mc f) 31) := ⟨_, rfl⟩
  have hbb : Below w.heap.size w wb := by rw [hwb]; exact ((Below.refl _ _).alloc (Nat.le_refl _) _).alloc (by simp) _
  have h7 : RdM wb wb.heap.size (some ⟨w.heap.size + 1, 0, none⟩) [f] := by rw [hwb]; exact rd_one (Blk.six (Blk.new' _ _ _ (by simp)))
  have Hx := Lib.hid (Rd.more (Rd.below hx hbb) hbb.size)
  have Hn := Lib.hid hn
  have HA := Lib.hid hA
  have H7 := Lib.hid h7
  have Hbb := Lib.hid hbb
  have Hwb := Lib.hid hwb
  clear hx hn h7 hbb hwb hA
  have key : ∃ x : Int, monC ms [f] = x ∧ ((x = 4 ∧ isElB ms f = false ∧ elC ms [f] = 0) ∨ (x = 0 ∧ isElB ms f = true ∧ elC ms [f] = 0) ∨ (0 < x ∧ x < 4 ∧ isElB ms f = false ∧ elC ms [f] = x)) := by
    refine ⟨_, rfl, ?_⟩
    by_cases hc : elC ms [f] = 0
    · obtain ⟨E, ps, hE⟩ := elC_el hc
      have hB : isElB ms f = decide (f ∈ E) := by unfold isElB; rw [decide_eq_true hc, Bool.true_and, hE.r]
      rw [hB, hE.mon]
      by_cases hin : f ∈ E
      · right; left; simp [hin, hc]
      · left; simp [hin, hc]
    · right; right
      have hB : isElB ms f = false := by unfold isElB; rw [decide_eq_false hc, Bool.false_and]
      rw [elC_mon hc]
      exact ⟨(elC_p hc).1, (elC_p hc).2, hB, rfl⟩
  obtain ⟨x, hx, key⟩ := key
  have Hmx := Lib.hid hx
  clear hx
  go_enter Tryz.func27, Tryz.ntmps27
  go_wp2_with fail
  rw [← Hwb.out]
  refine (monoidOf_any A (some ⟨w.heap.size + 1, 0, none⟩) n c 1 1 ms [f] wb Hx.out H7.out Hn.out rfl HA.out (fun h => (by cases h)) (by omega)).mono ?_
  rintro e w1 ⟨r, v, rfl, hb1, hr0, hs⟩
  rw [Hmx.out]
  have Hb2 := Lib.hid (Hbb.out.trans (hb1.mono Hbb.out.size))
  clear hb1 hs hr0
  rcases key with ⟨rfl, hB, hc⟩ | ⟨rfl, hB, hc⟩ | ⟨p0, p4, hB, hc⟩
  · have HB := Lib.hid hB
    have Hc := Lib.hid hc
    clear hB hc
    go_wp2
    go_ret2
    exact ⟨by rw [HB.out, Hc.out] <;> rfl, Hb2.out⟩
  · have HB := Lib.hid hB
    have Hc := Lib.hid hc
    clear hB hc
    go_wp2
    go_ret2
    exact ⟨by rw [HB.out, Hc.out] <;> rfl, Hb2.out⟩
  · have HB := Lib.hid hB
    have Hc := Lib.hid hc
    have h4 : (x == 4) = false := by simp; omega
    have h0 : (x == 0) = false := by simp; omega
    clear hB hc
    go_wp2
    go_ret2
    exact ⟨by rw [HB.out, Hc.out] <;> rfl, Hb2.out⟩
end Go.Proofs.YtchjegojcpbfpaaGreat

namespace Go.Proofs.YtchjegojcpbfpaaGreat
open Go.RowKit
set_option maxRecDepth 100000
set_option linter.unusedSimpArgs false
/-! ### central elements -/
/-! ### zeros of one side -/
/-! ### some element is such -/
/-! ### regular elements -/
set_option maxRecDepth 100000
set_option linter.unusedSimpArgs false
set_option maxRecDepth 100000
set_option linter.unusedSimpArgs false
/-! ### zeros -/
set_option maxRecDepth 100000
set_option linter.unusedSimpArgs false
/-! ### a list and one map -/
theorem monC1_cases (ms : List M) (f : M) : (monC ms [f] = 0 ∧ ∃ E ps, El ms [f] E ps ∧ f ∈ E) ∨ (0 < monC ms [f] ∧ monC ms [f] < 5) := by
  by_cases hc : elC ms [f] = 0
  · obtain ⟨E, ps, hE⟩ := elC_el hc
    rw [hE.mon]
    by_cases hin : f ∈ E
    · left; simp [hin]; exact ⟨E, ⟨ps, hE⟩, hin⟩
    · right; simp [hin]
  · right
    rw [elC_mon hc]
    have := elC_p hc
    omega
end Go.Proofs.YtchjegojcpbfpaaGreat

namespace Go.Proofs.YtchjegojcpbfpaaGreat
open Go.RowKit
set_option maxRecDepth 100000
set_option linter.unusedSimpArgs false
theorem RdM.six {w : World} {B b off : Nat} {E : List M} (h : RdM w B (some ⟨b, off, none⟩) E) {k : Nat} (hk : k < E.length) : SixAt w b (off + k * 6) (gm E k) ∧ b < B := by
  obtain ⟨b', off', e, hb, h6⟩ := RdM.at_ h hk
  injection e with e
  injection e with e1 e2 _
  subst e1 e2
  exact ⟨h6, hb⟩
end Go.Proofs.YtchjegojcpbfpaaGreat

namespace Go.Proofs.YtchjegojcpbfpaaGreat
open Go.RowKit
set_option maxRecDepth 100000
set_option linter.unusedSimpArgs false
/-! ### the least word -/
def wfR (ms : List M) (f : M) : List Int := if monC ms [f] = 0 then (match clo ms (gm ms 0).p with | some ps => wordOf ps f | none => []) else []
theorem wfR_in {ms E : List M} {f : M} {ps : Met} (hE : El ms [f] E ps) (hc : monC ms [f] = 0) : wfR ms f = wordOf ps f := by
  unfold wfR; rw [if_pos hc, hE.clo]
theorem wfR_out {ms : List M} {f : M} (hc : monC ms [f] ≠ 0) : wfR ms f = [] := if_neg hc
theorem word_len {ms : List M} {n : Int} {ps : Met} {f : M} (h : clo ms n = some ps) (hf : f ∈ ps.map (·.1)) : (wordOf ps f).length ≤ 300 := by
  have hg := (clo_good h).1
  have hi : ix (ps.map (·.1)) f < ps.length := by have := ix_lt hf; rwa [List.length_map] at this
  have := hg.wl _ hi
  have := hg.len
  unfold wordOf
  omega
theorem wfR_len (ms : List M) (f : M) : (wfR ms f).length ≤ 300 := by
  by_cases hc : monC ms [f] = 0
  · rcases monC1_cases ms f with ⟨_, E, ps, hE, hin⟩ | ⟨p0, p5⟩
    · rw [wfR_in hE hc]
      refine word_len hE.clo ?_
      rw [hE.eq] at hin
      exact sortM_mem.1 hin
    · omega
  · rw [wfR_out hc]; simp
theorem ImplWordFor_any (A : Option Addr) (n c : Nat) (ms : List M) (f : M) (w : World) (hx : RdM w w.heap.size A ms) (hn : ms.length = n) (hA : A = none → n = 0 ∧ c = 0) (hb : n < 536870912) :
    Calls Tryz.prog 33 #[.slice A n c, .agg (mc f)] w (RetI (wfR ms f) (monC ms [f]) w) := by
  obtain ⟨wb, hwb⟩ : ∃ wb, wb = (w.alloc (.cells (mc f) 31)).alloc (.cells (mc f) 31) := ⟨_, rfl⟩
  have hbb : Below w.heap.size w wb := by rw [hwb]; exact ((Below.refl _ _).alloc (Nat.le_refl _) _).alloc (by simp) _
  have h7 : RdM wb wb.heap.size (some ⟨w.heap.size + 1, 0, none⟩) [f] := by rw [hwb]; exact rd_one (Blk.six (Blk.new' _ _ _ (by simp)))
  have Hx := Lib.hid (Rd.more (Rd.below hx hbb) hbb.size)
  have Hn := Lib.hid hn
  have HA := Lib.hid hA
  have H7 := Lib.hid h7
  have Hbb := Lib.hid hbb
  have Hwb := Lib.hid hwb
  have hzb := hbb.size
  clear hx hn h7 hbb hwb hA
  rcases monC1_cases ms f with ⟨hc, E, ps, hE, hin⟩ | ⟨p0, p5⟩
  · have HR := Lib.hid (wfR_in hE hc)
    have HE := Lib.hid hE
    have Hc := Lib.hid hc
    have hlen := hE.len
    have Hin := Lib.hid hin
    obtain ⟨x, hx⟩ : ∃ x, x = ix E f := ⟨_, rfl⟩
    have hxl : x < E.length := by rw [hx]; exact ix_lt hin
    have Hxx := Lib.hid hx
    clear hE hc hin hx
    go_enter Tryz.func33, Tryz.ntmps33
    go_wp2_with fail
    rw [← Hwb.out]
    refine (monoidOf_any A (some ⟨w.heap.size + 1, 0, none⟩) n c 1 1 ms [f] wb Hx.out H7.out Hn.out rfl HA.out (fun h => (by cases h)) (by omega)).mono ?_
    rintro e w1 ⟨r, v, rfl, hb1, hr0, hs⟩
    obtain ⟨g, rfl, hM, hO⟩ := hs ps HE.out.clo Hc.out
    rw [← HE.out.eq] at hM hO
    simp only [List.map_cons, List.map_nil] at hO
    rw [← Hxx.out] at hO
    rw [Hc.out]
    obtain ⟨Av, cv, hv, hrv⟩ := hO.form
    subst hv
    obtain ⟨b, off, e, hbv, c0⟩ := RdI.at_ hrv (k := 0) (by simp)
    subst e
    rw [Nat.add_zero] at c0
    have C1 : Hid (w1.cell? ⟨b, off, none⟩ = some (I x)) := c0
    obtain ⟨_, ev, wv, pl, vs, hMo, _, _, hW, hvl, hul, hws⟩ := hM
    obtain ⟨gW, cW, rfl⟩ := hW.some_ (by omega)
    rw [hvl] at hMo
    have hcw := RdV.at_ hW.rd (k := x) (by omega)
    obtain ⟨b2, off2, e2, hb2, hcw⟩ := hcw
    injection e2 with e2
    injection e2 with e3 e4 _
    subst e3 e4
    rw [Nat.zero_add] at hcw
    have hwx := hws x hxl
    have hgx : (E.map (wordOf ps)).getD x [] = wordOf ps f := by
      rw [List.getD_eq_getElem?_getD, List.getElem?_map, List.getElem?_eq_getElem hxl]
      have : E[x] = f := by have := gm_ix Hin.out; rw [← Hxx.out, gm_eq hxl] at this; exact this
      rw [this]; rfl
    rw [hgx] at hwx
    obtain ⟨Au, cu, hvu, _⟩ := hwx.form
    obtain ⟨k, hk⟩ : ∃ k, (wordOf ps f).length = k := ⟨_, rfl⟩
    rw [hk] at hvu
    rw [hvu] at hwx hcw
    have HW := Lib.hid hwx
    have CW := Lib.hid hcw
    have CM := Lib.hid hMo.c1
    have l1 := World.block_lt_of_cell? w1 ⟨b, off, none⟩ c0
    have l2 := World.block_lt_of_cell? w1 ⟨gW, x, none⟩ hcw
    have l3 := hMo.lt
    have Hb1 := Lib.hid (Hbb.out.trans (hb1.mono Hbb.out.size))
    have hxi : (x : Int) < (E.length : Int) := by omega
    clear hs hb1 hr0 hO hrv c0 hMo hW hws hwx hgx hvu hcw hk hvl hul
    simp only [List.length_singleton]
    go_wp2_with fail
    refine wp_region_same [] rfl (by kernel_rfl) (by kernel_rfl) (by kernel_rfl) (fun w' => Below w1.heap.size w1 w') _
      [.pointer (some ⟨g, 0, none⟩), .pointer (some ⟨g, 0, none⟩), .pointer (some ⟨g, 1, none⟩), .slice (some ⟨gW, 0, none⟩) E.length cW, .slice (some ⟨b, off, none⟩) 1 cv, .pointer (some ⟨b, off, none⟩), I x, .pointer (some ⟨gW, x, none⟩), .slice Au k cu, .slice Au k cu, I 0]
      (by simp only [putAll, List.setIfInBounds_toArray, List.set_cons_succ, List.set_cons_zero]; rfl) (Below.refl _ _).drew ?hop ?hQ
    case hop =>
      refine FixBL.toL (fun w' w'' hS hb => hS.trans (hb.mono hS.size)) _ _ ?_
      refine ⟨.inr ?_, .inr ?_, .inr ?_, .inr ?_, .inr ?_, .inr ?_, .inr ?_, .inr ?_, .inr ?_, .inr ?_, .inr ?_, trivial⟩
      · (with_reducible refine FixB.of ?_ ?_; rfl; intro w' hS; have s0 := (hS.cell (p := ⟨b, off, none⟩) l1).trans C1.out; have s1 := (hS.cell (p := ⟨gW, x, none⟩) l2).trans CW.out; have s2 := (hS.cell (p := ⟨g, 1, none⟩) l3).trans CM.out; clear hS; unfold Oper.wp; go_simp; first | done | exact Below.refl _ _)
      · (with_reducible refine FixB.of ?_ ?_; rfl; intro w' hS; have s0 := (hS.cell (p := ⟨b, off, none⟩) l1).trans C1.out; have s1 := (hS.cell (p := ⟨gW, x, none⟩) l2).trans CW.out; have s2 := (hS.cell (p := ⟨g, 1, none⟩) l3).trans CM.out; clear hS; unfold Oper.wp; go_simp; first | done | exact Below.refl _ _)
      · (with_reducible refine FixB.of ?_ ?_; rfl; intro w' hS; have s0 := (hS.cell (p := ⟨b, off, none⟩) l1).trans C1.out; have s1 := (hS.cell (p := ⟨gW, x, none⟩) l2).trans CW.out; have s2 := (hS.cell (p := ⟨g, 1, none⟩) l3).trans CM.out; clear hS; unfold Oper.wp; go_simp; first | done | exact Below.refl _ _)
      · (with_reducible refine FixB.of ?_ ?_; rfl; intro w' hS; have s0 := (hS.cell (p := ⟨b, off, none⟩) l1).trans C1.out; have s1 := (hS.cell (p := ⟨gW, x, none⟩) l2).trans CW.out; have s2 := (hS.cell (p := ⟨g, 1, none⟩) l3).trans CM.out; clear hS; unfold Oper.wp; go_simp; first | done | exact Below.refl _ _)
      · (with_reducible refine FixB.of ?_ ?_; rfl; intro w' hS; have s0 := (hS.cell (p := ⟨b, off, none⟩) l1).trans C1.out; have s1 := (hS.cell (p := ⟨gW, x, none⟩) l2).trans CW.out; have s2 := (hS.cell (p := ⟨g, 1, none⟩) l3).trans CM.out; clear hS; unfold Oper.wp; go_simp; first | done | exact Below.refl _ _)
      · (with_reducible refine FixB.of ?_ ?_; rfl; intro w' hS; have s0 := (hS.cell (p := ⟨b, off, none⟩) l1).trans C1.out; have s1 := (hS.cell (p := ⟨gW, x, none⟩) l2).trans CW.out; have s2 := (hS.cell (p := ⟨g, 1, none⟩) l3).trans CM.out; clear hS; unfold Oper.wp; go_simp; first | done | exact Below.refl _ _)
      · (with_reducible refine FixB.of ?_ ?_; rfl; intro w' hS; have s0 := (hS.cell (p := ⟨b, off, none⟩) l1).trans C1.out; have s1 := (hS.cell (p := ⟨gW, x, none⟩) l2).trans CW.out; have s2 := (hS.cell (p := ⟨g, 1, none⟩) l3).trans CM.out; clear hS; unfold Oper.wp; go_simp; first | done | exact Below.refl _ _)
      · (with_reducible refine FixB.of ?_ ?_; rfl; intro w' hS; have s0 := (hS.cell (p := ⟨b, off, none⟩) l1).trans C1.out; have s1 := (hS.cell (p := ⟨gW, x, none⟩) l2).trans CW.out; have s2 := (hS.cell (p := ⟨g, 1, none⟩) l3).trans CM.out; clear hS; unfold Oper.wp; go_simp; first | done | exact Below.refl _ _)
      · (with_reducible refine FixB.of ?_ ?_; rfl; intro w' hS; have s0 := (hS.cell (p := ⟨b, off, none⟩) l1).trans C1.out; have s1 := (hS.cell (p := ⟨gW, x, none⟩) l2).trans CW.out; have s2 := (hS.cell (p := ⟨g, 1, none⟩) l3).trans CM.out; clear hS; unfold Oper.wp; go_simp; first | done | exact Below.refl _ _)
      · (with_reducible refine FixB.of ?_ ?_; rfl; intro w' hS; have s0 := (hS.cell (p := ⟨b, off, none⟩) l1).trans C1.out; have s1 := (hS.cell (p := ⟨gW, x, none⟩) l2).trans CW.out; have s2 := (hS.cell (p := ⟨g, 1, none⟩) l3).trans CM.out; clear hS; unfold Oper.wp; go_simp; first | done | exact Below.refl _ _)
      · (with_reducible refine FixB.of ?_ ?_; rfl; intro w' hS; have s0 := (hS.cell (p := ⟨b, off, none⟩) l1).trans C1.out; have s1 := (hS.cell (p := ⟨gW, x, none⟩) l2).trans CW.out; have s2 := (hS.cell (p := ⟨g, 1, none⟩) l3).trans CM.out; clear hS; unfold Oper.wp; go_simp; first | done | exact Below.refl _ _)
    case hQ =>
    intro wc hS _
    have HB2 := Lib.hid hS
    clear hS
    have Ho := Lib.hid ((HW.out.below HB2.out (Nat.le_refl _)).mono hzb)
    have Hb2 := Lib.hid (Hb1.out.trans (HB2.out.mono Hb1.out.size))
    go_wp2_with fail
    go_ret2
    exact .mk _ (by rw [Hc.out] <;> rfl) (by rw [HR.out]; exact Ho.out) Hb2.out
  · have HR := Lib.hid (wfR_out (ms := ms) (f := f) (by omega))
    have hne : (monC ms [f] != 0) = true := by simp; omega
    go_enter Tryz.func33, Tryz.ntmps33
    go_wp2_with fail
    rw [← Hwb.out]
    refine (monoidOf_any A (some ⟨w.heap.size + 1, 0, none⟩) n c 1 1 ms [f] wb Hx.out H7.out Hn.out rfl HA.out (fun h => (by cases h)) (by omega)).mono ?_
    rintro e w1 ⟨r, v, rfl, hb1, hr0, hs⟩
    have Hb1 := Lib.hid (Hbb.out.trans (hb1.mono Hbb.out.size))
    clear hs hb1 hr0
    go_wp2
    go_ret2
    exact .mk _ rfl (by rw [HR.out]; exact OwI.nil_) Hb1.out
end Go.Proofs.YtchjegojcpbfpaaGreat

namespace Go.Proofs.YtchjegojcpbfpaaGreat
open Go.RowKit
set_option maxRecDepth 100000
set_option linter.unusedSimpArgs false
theorem SpecWordFor_any (A : Option Addr) (n c : Nat) (ms : List M) (f : M) (w : World) (hx : RdM w w.heap.size A ms) (hn : ms.length = n) (hb : n < 1073741824) :
    Calls Tryz.prog 34 #[.slice A n c, .agg (mc f)] w (RetSI (wfR ms f) (monC ms [f]) w) := by
  obtain ⟨wb, hwb⟩ : ∃ wb, wb = (w.alloc (.cells (mc f) 31)).alloc (.cells (mc f) 31) := ⟨_, rfl⟩
  have hbb : Below w.heap.size w wb := by rw [hwb]; exact ((Below.refl _ _).alloc (Nat.le_refl _) _).alloc (by simp) _
  have h6 : Six wb w.heap.size f := by rw [hwb]; exact Six.alloc (Blk.six (Blk.new w _ _)) _
  have h7 : RdM wb wb.heap.size (some ⟨w.heap.size + 1, 0, none⟩) [f] := by rw [hwb]; exact rd_one (Blk.six (Blk.new' _ _ _ (by simp)))
  have Hx := Lib.hid (Rd.more (Rd.below hx hbb) hbb.size)
  have Hn := Lib.hid hn
  have H6 := Lib.hid h6
  have H7 := Lib.hid h7
  have Hbb := Lib.hid hbb
  have Hwb := Lib.hid hwb
  have hlt := h6.lt
  clear hx hn h6 h7 hbb hwb
  by_cases hc : codeL ms [f] = 0
  · obtain ⟨q1, q2, q3, q4, q5, q6⟩ := codeL_pts' hc
    have Hc := Lib.hid hc
    have H3 := Lib.hid q3
    have hl1 : 0 < n := by have := Hn.out; omega
    obtain ⟨b, off, rfl, hbl, _⟩ := RdM.at_ Hx.out (k := 0) (by omega)
    clear hc q3
    go_enter Tryz.func34, Tryz.ntmps34
    go_wp2_with fail
    rw [← Hwb.out]
    refine (l02Given_any (some ⟨b, off, none⟩) (some ⟨w.heap.size + 1, 0, none⟩) n c 1 1 ms [f] wb Hx.out H7.out Hn.out rfl hb (by decide)).mono ?_
    rintro e w1 ⟨rfl, hb1⟩
    rw [Hc.out]
    have Hb1 := Lib.hid hb1
    obtain ⟨x0, _⟩ := (RdM.six (Rd.below Hx.out hb1) (k := 0) (by rw [Hn.out]; exact hl1)).1
    rw [Nat.zero_mul, Nat.add_zero] at x0
    have hz1 := hb1.size
    clear hb1
    go_wp2_with fail
    refine (l02Closed_any (some ⟨b, off, none⟩) n c ms (gm ms 0).p w1 (Rd.more (Rd.below Hx.out Hb1.out) hz1) Hn.out (by omega) q1 q2 H3.out).mono ?_
    rintro e w2 ⟨v1, v2, rfl, hb2', hsome⟩
    have Hb2 := Lib.hid (Hb1.out.trans (hb2'.mono hz1))
    have hz2 := hb2'.size
    clear x0
    cases hclo : clo ms (gm ms 0).p with
    | none =>
      have hmc := monC_none Hc.out hclo
      have hR := wfR_out (ms := ms) (f := f) (by rw [hmc]; decide)
      have HR := Lib.hid hR
      have Hmc := Lib.hid hmc
      have Hbe := Lib.hid (Hbb.out.trans (Hb2.out.mono Hbb.out.size))
      rw [show (none : Option Met).isSome = false from rfl]
      clear hsome hb2' hclo hmc hR
      go_wp2
      go_ret2
      exact .mk none 0 (by rw [Hmc.out, HR.out] <;> rfl) (by rw [HR.out]; exact Rd.nil_) Hbe.out
    | some ps =>
      obtain ⟨hO, vs, hW, hvl, hws⟩ := hsome ps hclo
      have hgd := (clo_good hclo).1
      have hlen := hgd.len
      obtain ⟨g1, c1, rfl⟩ := hO.some_ (by rw [List.length_map]; obtain ⟨qs, e, _⟩ := hgd.fst; rw [e]; simp)
      obtain ⟨g2, c2, rfl⟩ := hW.some_ (by rw [hvl]; obtain ⟨qs, e, _⟩ := hgd.fst; rw [e]; simp)
      rw [List.length_map] at hO ⊢
      rw [hvl] at hW ⊢
      have HO := Lib.hid hO.rd
      have HW := Lib.hid hW.rd
      have Hvl := Lib.hid hvl
      have Hws := Lib.hid hws
      have Hclo := Lib.hid hclo
      have Hgd := Lib.hid hgd
      have H62 := Lib.hid (H6.out.below Hb2.out hlt)
      rw [show (some ps : Option Met).isSome = true from rfl]
      clear hsome hb2' hclo hO hW hvl hws hgd
      go_wp2_with fail
      go_loopw [10] (fun i wr => ∃ q : Nat, i = .int .i64 q ∧ q ≤ ps.length ∧ Below w2.heap.size w2 wr ∧ ∀ j, j < q → (pm ps j).1 ≠ f) (fun i _ => ps.length - (intOf i).toNat)
      case atStart => exact ⟨0, rfl, by omega, Below.refl _ _, fun j hj => by omega⟩
      case round =>
        obtain ⟨q, rfl, hq, hb', hno⟩ := hrel
        have Hb' := Lib.hid hb'
        have Hno := Lib.hid hno
        have hz' := hb'.size
        clear hb' hno
        by_cases hqk : q < ps.length
        · have hqi : (q : Int) < (ps.length : Int) := by omega
          have h0 := (RdM.six (Rd.more (Rd.below HO.out Hb'.out) hz') (k := q) (by rw [List.length_map]; exact hqk))
          rw [Nat.zero_add] at h0
          obtain ⟨z, hzz⟩ : ∃ z, z = gm (ps.map (·.1)) q := ⟨_, rfl⟩
          rw [← hzz] at h0
          have H0 := Lib.hid h0.1
          have h0l := h0.2
          have heq := eqMap_run z f
          obtain ⟨d, hd⟩ : ∃ d, d = decide (z = f) := ⟨_, rfl⟩
          rw [← hd] at heq
          have Hd := Lib.hid hd
          have Hzz : Hid (z = (pm ps q).1) := by show _ = _; rw [hzz, pm_fst hqk]
          have HFr := Lib.hid (H62.out.below Hb'.out (by omega))
          have hfl : w.heap.size < wr.heap.size := by omega
          clear h0 hzz hd
          go_wp2_with fail
          refine wp_region_same [] rfl (by kernel_rfl) (by kernel_rfl) (by kernel_rfl) (fun w' => Below wr.heap.size wr w') _
            [.slice (some ⟨g1, 0, none⟩) ps.length c1, I q, .pointer (some ⟨g1, q * 6, none⟩), .agg (mc z), .agg (mc f), .bool d]
            (by simp only [putAll, List.setIfInBounds_toArray, List.set_cons_succ, List.set_cons_zero]; rfl) (Below.refl _ _).drew ?hop ?hQ
          case hop =>
            refine FixBL.toL (fun w' w'' hS hb => hS.trans (hb.mono hS.size)) _ _ ?_
            refine ⟨.inr ?_, .inr ?_, .inr ?_, .inr ?_, .inr ?_, .inr ?_, trivial⟩
            · (with_reducible refine FixB.of ?_ ?_; rfl; intro w' hS; have s0 := H0.out.below hS h0l; have s1 := HFr.out.below hS hfl; clear hS; unfold Oper.wp; go_simp; first | done | exact Below.refl _ _)
            · (with_reducible refine FixB.of ?_ ?_; rfl; intro w' hS; have s0 := H0.out.below hS h0l; have s1 := HFr.out.below hS hfl; clear hS; unfold Oper.wp; go_simp; first | done | exact Below.refl _ _)
            · (with_reducible refine FixB.of ?_ ?_; rfl; intro w' hS; have s0 := H0.out.below hS h0l; have s1 := HFr.out.below hS hfl; clear hS; unfold Oper.wp; go_simp; first | done | exact Below.refl _ _)
            · (with_reducible refine FixB.of ?_ ?_; rfl; intro w' hS; have s0 := H0.out.below hS h0l; have s1 := HFr.out.below hS hfl; clear hS; unfold Oper.wp; go_simp; first | done | exact Below.refl _ _)
            · (with_reducible refine FixB.of ?_ ?_; rfl; intro w' hS; have s0 := H0.out.below hS h0l; have s1 := HFr.out.below hS hfl; clear hS; unfold Oper.wp; go_simp; first | done | exact Below.refl _ _)
            · (with_reducible refine FixB.of ?_ ?_; rfl; intro w' hS; have s0 := H0.out.below hS h0l; have s1 := HFr.out.below hS hfl; clear hS; unfold Oper.wp; go_simp; first | done | exact Below.refl _ _)
          case hQ =>
          intro wc hS _
          have HB2 := Lib.hid hS
          clear hS
          have Hb3 := Lib.hid (Hb'.out.trans (HB2.out.mono hz'))
          clear heq H0 HFr
          cases d
          · have hne : z ≠ f := fun e => by have := Hd.out; simp [e] at this
            have Hne := Lib.hid hne
            clear hne
            go_wp2_with fail
            go_roundw
            case rel => exact ⟨q + 1, by go_num, by omega, Hb3.out, fun j hj => by
              by_cases e : j = q
              · rw [e, ← Hzz.out]; exact Hne.out
              · exact Hno.out j (by omega)⟩
            case measure => simp [intOf]; omega
          · have hzf : z = f := of_decide_eq_true Hd.out.symm
            have hin : f ∈ ps.map (·.1) := by rw [← hzf, Hzz.out]; exact List.mem_map_of_mem (pm_mem hqk)
            have hmc : monC ms [f] = 0 := monC_in Hc.out Hclo.out (by intro x hx; rw [List.mem_singleton.1 hx]; exact sortM_mem.2 hin)
            have hR : wfR ms f = (pm ps q).2 := by unfold wfR; rw [if_pos hmc, Hclo.out]; simp only; rw [← hzf, Hzz.out, wordOf_pm Hgd.out.nd hqk]
            have hwq := (Hws.out q hqk).below Hb3.out (Nat.le_refl _)
            obtain ⟨Au, cu, hvu, hru⟩ := hwq.form
            obtain ⟨b', o', e', _, hcw⟩ := RdV.at_ (Rd.more (Rd.below HW.out Hb3.out) Hb3.out.size) (k := q) (by rw [Hvl.out]; exact hqk)
            injection e' with e'
            injection e' with e1 e2 _
            subst e1 e2
            rw [Nat.zero_add, hvu] at hcw
            obtain ⟨k, hk⟩ : ∃ k, (pm ps q).2.length = k := ⟨_, rfl⟩
            rw [hk] at hcw
            have hru2 : RdI wc wc.heap.size Au (wfR ms f) := by rw [hR]; exact hru
            have hkl : (wfR ms f).length = k := by rw [hR, hk]
            have Hru := Lib.hid hru2
            have Hkl := Lib.hid hkl
            have Hmc := Lib.hid hmc
            have Hbe := Lib.hid (Hbb.out.trans ((Hb2.out.trans (Hb3.out.mono (by omega))).mono Hbb.out.size))
            clear hzf hin hmc hR hwq hru hru2 hkl hk hvu
            go_wp2
            go_ret2
            exact .mk Au cu (by rw [Hkl.out, Hmc.out] <;> rfl) Hru.out Hbe.out
        · obtain rfl : q = ps.length := by omega
          have hqi : ¬ ((ps.length : Int) < (ps.length : Int)) := by omega
          have hnin : f ∉ eltM ps := fun h => by
            have h := sortM_mem.1 h
            obtain ⟨p, hp, e⟩ := List.mem_map.1 h
            obtain ⟨i, hi, e2⟩ := List.getElem_of_mem hp
            exact Hno.out i hi (by rw [pm_eq hi, e2]; exact e)
          have hmc : monC ms [f] = 4 := monC_out Hc.out Hclo.out (by simp) hnin
          have hR := wfR_out (ms := ms) (f := f) (by rw [hmc]; decide)
          have HR := Lib.hid hR
          have Hmc := Lib.hid hmc
          have Hbe := Lib.hid (Hbb.out.trans ((Hb2.out.trans (Hb'.out.mono (by omega))).mono Hbb.out.size))
          clear hnin hmc hR
          go_wp2
          go_ret2
          exact .mk none 0 (by rw [HR.out, Hmc.out] <;> rfl) (by rw [HR.out]; exact Rd.nil_) Hbe.out
  · have hmc := monC_code hc
    have hR := wfR_out (ms := ms) (f := f) (by rw [hmc]; exact hc)
    have HR := Lib.hid hR
    have Hmc := Lib.hid hmc
    have hne : (codeL ms [f] != 0) = true := by simpa using hc
    clear hc hmc hR
    go_enter Tryz.func34, Tryz.ntmps34
    go_wp2_with fail
    rw [← Hwb.out]
    refine (l02Given_any A (some ⟨w.heap.size + 1, 0, none⟩) n c 1 1 ms [f] wb Hx.out H7.out Hn.out rfl hb (by decide)).mono ?_
    rintro e w1 ⟨rfl, hb1⟩
    have Hbe := Lib.hid (Hbb.out.trans (hb1.mono Hbb.out.size))
    clear hb1
    go_wp2
    go_ret2
    exact .mk none 0 (by rw [HR.out, Hmc.out] <;> rfl) (by rw [HR.out]; exact Rd.nil_) Hbe.out
end Go.Proofs.YtchjegojcpbfpaaGreat

namespace Go.Proofs.YtchjegojcpbfpaaGreat
open Go.RowKit
set_option maxRecDepth 100000
set_option linter.unusedSimpArgs false
def slen : Value → Nat
  | .slice _ m _ => m
  | _ => 0
def slR (ms : List M) : List Int := if elC ms [] = 0 then (match clo ms (gm ms 0).p with | some ps => cntOf (ps.map fun q => q.2.length) | none => []) else []
theorem slR_in {ms E : List M} {ps : Met} (hE : El ms [] E ps) (hc : elC ms [] = 0) : slR ms = cntOf (ps.map fun q => q.2.length) := by
  unfold slR; rw [if_pos hc, hE.clo]
theorem slR_out {ms : List M} (hc : elC ms [] ≠ 0) : slR ms = [] := if_neg hc
theorem slR_in2 {ms E : List M} {ps : Met} (hE : El ms [] E ps) (hc : elC ms [] = 0) : slR ms = cntOf (E.map fun f => (wordOf ps f).length) := by
  rw [slR_in hE hc, hE.eq]
  refine cntOf_perm ?_
  have h := (words_perm hE.clo).map List.length
  rw [List.map_map, List.map_map] at h
  exact h.symm
theorem cnt_len {ks : List Nat} (h : ∀ k ∈ ks, k ≤ 300) : (cntOf ks).length ≤ 301 := by
  unfold cntOf
  rw [foldl_len]
  have h2 : mxTo (fun i => ks.getD i 0 + 1) ks.length ≤ 301 := mxTo_le fun j hj => by
    have h3 : ks.getD j 0 ∈ ks := by simp only [List.getD_eq_getElem?_getD, List.getElem?_eq_getElem hj, Option.getD_some]; exact List.getElem_mem hj
    have := h _ h3
    omega
  exact Nat.max_le.2 ⟨by simp, h2⟩
theorem met_len {ms : List M} {n : Int} {ps : Met} (h : clo ms n = some ps) : ∀ q ∈ ps, q.2.length ≤ 300 := fun q hq => by
  obtain ⟨i, hi, e⟩ := List.getElem_of_mem hq
  have h1 := (clo_good h).1.wl i hi
  have h2 := (clo_good h).1.len
  rw [pm_eq hi, e] at h1
  omega
theorem slR_len (ms : List M) : (slR ms).length ≤ 301 := by
  by_cases hc : elC ms [] = 0
  · obtain ⟨E, ps, hE⟩ := elC_el hc
    rw [slR_in hE hc]
    refine cnt_len fun k hk => ?_
    obtain ⟨q, hq, rfl⟩ := List.mem_map.1 hk
    exact met_len hE.clo q hq
  · rw [slR_out hc]; simp
set_option maxHeartbeats 1000000 in
theorem SpecSL_any (A : Option Addr) (n c : Nat) (ms : List M) (w : World) (hx : RdM w w.heap.size A ms) (hn : ms.length = n) (hb : n < 1073741824) :
    Calls Tryz.prog 41 #[.slice A n c] w (RetSI (slR ms) (elC ms []) w) := by
  have Hx := Lib.hid hx
  have Hn := Lib.hid hn
  clear hx hn
  by_cases hc : codeL ms [] = 0
  · obtain ⟨q1, q2, q3, q4, q5, q6⟩ := codeL_pts' hc
    have Hc := Lib.hid hc
    have H3 := Lib.hid q3
    have hl1 : 0 < n := by have := Hn.out; omega
    obtain ⟨b, off, rfl, hbl, _⟩ := RdM.at_ Hx.out (k := 0) (by omega)
    clear hc q3
    go_enter Tryz.func41, Tryz.ntmps41
    go_wp2_with fail
    refine (l02Given_any (some ⟨b, off, none⟩) none n c 0 0 ms [] _ Hx.out Rd.nil_ Hn.out rfl hb (by decide)).mono ?_
    rintro e w1 ⟨rfl, hb1⟩
    rw [Hc.out]
    have Hb1 := Lib.hid hb1
    obtain ⟨x0, _⟩ := (RdM.six (Rd.below Hx.out hb1) (k := 0) (by rw [Hn.out]; exact hl1)).1
    rw [Nat.zero_mul, Nat.add_zero] at x0
    have hz1 := hb1.size
    clear hb1
    go_wp2_with fail
    refine (l02Closed_any (some ⟨b, off, none⟩) n c ms (gm ms 0).p w1 (Rd.more (Rd.below Hx.out Hb1.out) hz1) Hn.out (by omega) q1 q2 H3.out).mono ?_
    rintro e w2 ⟨v1, v2, rfl, hb2', hsome⟩
    have Hb2 := Lib.hid (Hb1.out.trans (hb2'.mono hz1))
    have hz2 := hb2'.size
    clear x0
    cases hclo : clo ms (gm ms 0).p with
    | none =>
      have hmc := elC_none Hc.out hclo
      have hR := slR_out (ms := ms) (by rw [hmc]; decide)
      have HR := Lib.hid hR
      have Hmc := Lib.hid hmc
      rw [show (none : Option Met).isSome = false from rfl]
      clear hsome hb2' hclo hmc hR
      go_wp2
      go_ret2
      exact .mk none 0 (by rw [Hmc.out, HR.out] <;> rfl) (by rw [HR.out]; exact Rd.nil_) Hb2.out
    | some ps =>
      obtain ⟨hO, vs, hW, hvl, hws⟩ := hsome ps hclo
      have hgd := (clo_good hclo).1
      have hN := hgd.len
      have hmc := elC_some Hc.out hclo
      have hR : slR ms = cntOf (ps.map fun q => q.2.length) := by unfold slR; rw [if_pos hmc, hclo]
      obtain ⟨A1, c1, hv1, _⟩ := hO.form
      subst hv1
      obtain ⟨g2, c2, rfl⟩ := hW.some_ (by rw [hvl]; obtain ⟨qs, e, _⟩ := hgd.fst; rw [e]; simp)
      rw [hvl] at hW ⊢
      have HW := Lib.hid hW.rd
      have Hvl := Lib.hid hvl
      have Hws := Lib.hid hws
      have HR := Lib.hid hR
      have Hmc := Lib.hid hmc
      obtain ⟨ks, hks⟩ : ∃ ks, ks = ps.map fun q => q.2.length := ⟨_, rfl⟩
      obtain ⟨N, hNN⟩ : ∃ N, N = ps.length := ⟨_, rfl⟩
      have Hks : Hid (ks.length = N) := by show _ = _; rw [hks, hNN, List.length_map]
      have Hkb : Hid (∀ k ∈ ks, k ≤ 300) := fun k hk => by
        rw [hks] at hk
        obtain ⟨q, hq, rfl⟩ := List.mem_map.1 hk
        exact met_len hclo q hq
      have Hkp : Hid (∀ q, q < N → (pm ps q).2.length = ks.getD q 0) := fun q hq => by
        rw [hNN] at hq
        rw [hks, List.getD_eq_getElem?_getD, List.getElem?_map, List.getElem?_eq_getElem hq, pm_eq hq]; rfl
      rw [← hks] at HR
      rw [← hNN] at hN Hvl Hws ⊢
      rw [show (some ps : Option Met).isSome = true from rfl]
      clear hsome hb2' hclo hO hW hvl hws hgd hmc hR hks hNN
      go_wp2_with fail
      go_loopw [8, 9] (fun v i wr => ∃ q : Nat, i = .int .i64 q ∧ q ≤ N ∧ Below w2.heap.size w2 wr ∧ OwI 2 wr w2.heap.size v (cntOf (ks.take q))) (fun _ i _ => N - (intOf i).toNat)
      case atStart => exact ⟨0, rfl, by omega, (Below.refl _ _).alloc (Nat.le_refl _) _, OwI.made (Nat.le_refl _)⟩
      case round =>
        obtain ⟨q, rfl, hq, hb', ho⟩ := hrel
        obtain ⟨A1, c1, hv, _⟩ := ho.form
        obtain ⟨k1, hk1⟩ : ∃ k1, (cntOf (ks.take q)).length = k1 := ⟨_, rfl⟩
        rw [hk1] at hv
        subst hv
        have Hk1 := Lib.hid hk1
        have Hb := Lib.hid hb'
        have Ho := Lib.hid ho
        clear hb' ho hk1
        by_cases hqN : q < N
        · have hqi : (q : Int) < (N : Int) := by omega
          obtain ⟨k, hkk⟩ : ∃ k, ks.getD q 0 = k := ⟨_, rfl⟩
          have Hkq := Lib.hid hkk
          have hk300 : k ≤ 300 := by
            rw [← hkk, List.getD_eq_getElem?_getD, List.getElem?_eq_getElem (by rw [Hks.out]; exact hqN)]
            exact Hkb.out _ (List.getElem_mem _)
          have hwq := Hws.out q hqN
          obtain ⟨Au, cu, hvu, _⟩ := hwq.form
          rw [Hkp.out q hqN, hkk] at hvu
          have HCW : Hid (∀ w', Below w2.heap.size w2 w' → w'.cell? ⟨g2, q, none⟩ = some (.slice Au k cu)) := fun w' hb2 => by
            obtain ⟨b', o', e', _, hcw⟩ := RdV.at_ (Rd.below HW.out hb2) (k := q) (by rw [Hvl.out]; exact hqN)
            injection e' with e'
            injection e' with e1 e2 _
            subst e1 e2
            rw [Nat.zero_add, hvu] at hcw
            exact hcw
          clear hkk hwq hvu
          have hcs : cntOf (ks.take (q + 1)) = cntStep (cntOf (ks.take q)) k := by
            rw [List.take_add_one, List.getElem?_eq_getElem (by rw [Hks.out]; exact hqN)]
            have e : ks[q]'(by rw [Hks.out]; exact hqN) = k := by have := Hkq.out; rw [List.getD_eq_getElem?_getD, List.getElem?_eq_getElem (by rw [Hks.out]; exact hqN)] at this; exact this
            rw [e]; exact cntOf_snoc _ _
          have Hcs := Lib.hid hcs
          have hgk : 0 ≤ gi (cntOf (ks.take q)) k ∧ gi (cntOf (ks.take q)) k ≤ 300 := by
            unfold cntOf
            rw [foldl_gi]
            have h1 := List.count_le_length (a := k) (l := ks.take q)
            rw [List.length_take] at h1
            have h2 : gi ([] : List Int) k = 0 := rfl
            have := Hks.out
            omega
          have hC300 : k1 ≤ 301 := by
            have h1 := Hk1.out
            unfold cntOf at h1
            rw [foldl_len] at h1
            have h2 : mxTo (fun i => (ks.take q).getD i 0 + 1) (ks.take q).length ≤ 301 := mxTo_le fun j hj => by
              have h3 : (ks.take q).getD j 0 ∈ ks.take q := by simp only [List.getD_eq_getElem?_getD, List.getElem?_eq_getElem hj, Option.getD_some]; exact List.getElem_mem hj
              have := Hkb.out _ (List.mem_of_mem_take h3)
              omega
            have h5 : ([] : List Int).length = 0 := rfl
            rw [h5] at h1
            omega
          obtain ⟨C, hC⟩ : ∃ C, C = cntOf (ks.take q) := ⟨_, rfl⟩
          rw [← hC] at Ho Hk1 Hcs hgk
          have hg0 := hgk.1
          have hg1 := hgk.2
          have HC := Lib.hid hC
          clear hcs hgk hC
          go_wp2_with fail
          go_loopw [8] (fun v wr => ∃ (t : Nat) (A1 : Option Addr) (c1 : Nat), v = .slice A1 (k1 + t) c1 ∧ t ≤ k + 1 - k1 ∧ OwI 2 wr w2.heap.size (.slice A1 (k1 + t) c1) (C ++ List.replicate t 0) ∧ Below w2.heap.size w2 wr) (fun v _ => k + 1 - slen v)
          case atStart => exact ⟨0, A1, c1, rfl, by omega, by simpa using Ho.out, Hb.out⟩
          case round =>
            clear Ho Hb
            obtain ⟨t, A1, c1, rfl, ht, ho, hb⟩ := hrel
            have Ho := Lib.hid ho
            have Hb := Lib.hid hb
            have hsz := hb.size
            have hlt : (C ++ List.replicate t (0 : Int)).length = k1 + t := by rw [List.length_append, List.length_replicate, Hk1.out]
            have Hlt := Lib.hid hlt
            clear ho hb hlt
            have e0 := HCW.out wr Hb.out
            by_cases hle : k1 + t ≤ k
            · have hli : ((k1 + t : Nat) : Int) ≤ (k : Int) := by omega
              have hli2 : (k1 : Int) + (t : Int) ≤ (k : Int) := by omega
              go_wp2_with (at_builtin; refine wpList_pushI rfl (.tmp 42) (.tmp 43) rfl w2.heap.size (.slice A1 (k1 + t) c1) (C ++ List.replicate t 0) rfl (Ho.out.alloc _) wr.heap.size 1 0 rfl ((Blk.new _ _ _).cell 0) (by rw [Hlt.out]; omega) (by simp; omega) (wr.heap.size + 1) (by simp) ?_; intro g' cap w4 ho' hgr hg' hlt'; have Hb4 := Lib.hid (((Ho.out.alloc (.cells #[I 0] 2)).bel (Hb.out.alloc hsz _) hgr (Nat.le_refl _) (by simp; omega))); rw [Hlt.out] at ho' ⊢; have Ho4 : Hid (OwI 2 w4 w2.heap.size (.slice (some ⟨g', 0, none⟩) (k1 + (t + 1)) cap) (C ++ List.replicate (t + 1) 0)) := (by rw [List.append_assoc, show List.replicate t (0 : Int) ++ [0] = List.replicate (t + 1) 0 from (List.replicate_succ').symm] at ho'; exact ho'); clear ho' hgr hg' hlt')
              go_roundw
              case rel => exact ⟨t + 1, some ⟨g', 0, none⟩, cap, by first | rfl | (simp; omega), by omega, Ho4.out, Hb4.out⟩
              case measure => simp [slen]; omega
            · have hli : ¬ ((k1 + t : Nat) : Int) ≤ (k : Int) := by omega
              have hli2 : ¬ (k1 : Int) + (t : Int) ≤ (k : Int) := by omega
              have hte : t = k + 1 - k1 := by omega
              have Hst : Hid (cntStep C k = (C ++ List.replicate t 0).set k (gi (C ++ List.replicate t 0) k + 1)) := by show _ = _; unfold cntStep; rw [Hk1.out, ← hte]
              obtain ⟨g, c', he, hgB, hgl, e1, z1, hs⟩ := Ho.out.spot (k := k) (by rw [Hlt.out]; omega)
              rw [Hlt.out] at he
              injection he with he1 _ he2
              subst he1 he2
              rw [gi_pad] at e1
              have Hs := Lib.hid hs
              have hgp := gi_pad C t k
              have Hgp := Lib.hid hgp
              obtain ⟨x, hx⟩ : ∃ x, x = gi C k := ⟨_, rfl⟩
              rw [← hx] at e1 hg0 hg1 Hgp
              have hki : (k : Int) < ((k1 + t : Nat) : Int) := by omega
              have hki2 : (k : Int) < (k1 : Int) + (t : Int) := by omega
              have Ho5 : Hid (OwI 2 (wr.setCell ⟨g, k, none⟩ (I (x + 1))) w2.heap.size (.slice (some ⟨g, 0, none⟩) (k1 + t) c1) (cntOf (ks.take (q + 1)))) := by
                show OwI _ _ _ _ _
                rw [Hcs.out, Hst.out, Hgp.out]
                exact Hs.out (x + 1)
              have Hb5 : Hid (Below w2.heap.size w2 (wr.setCell ⟨g, k, none⟩ (I (x + 1)))) := Hb.out.setCell (by exact hgB) _
              clear hs hgp hx
              go_wp2_with fail
              go_roundw
              case rel => exact ⟨q + 1, by go_num, by omega, Hb5.out, Ho5.out⟩
              case measure => simp [intOf]; omega
        · obtain rfl : q = N := by omega
          have hqi : ¬ ((q : Int) < (q : Int)) := by omega
          have htk : ks.take q = ks := List.take_of_length_le (by rw [Hks.out]; exact Nat.le_refl _)
          rw [htk, ← HR.out] at Hk1 Ho
          have Hbe := Lib.hid (Hb2.out.trans (Hb.out.mono (by omega)))
          clear htk
          go_wp2_with fail
          go_ret2
          exact .mk A1 c1 (by rw [Hk1.out, Hmc.out] <;> rfl) Ho.out.rdA Hbe.out
  · have hmc := elC_code hc
    have hR := slR_out (ms := ms) (by rw [hmc]; exact hc)
    have HR := Lib.hid hR
    have Hmc := Lib.hid hmc
    have hne : (codeL ms [] != 0) = true := by simpa using hc
    clear hc hmc hR
    go_enter Tryz.func41, Tryz.ntmps41
    go_wp2_with fail
    refine (l02Given_any A none n c 0 0 ms [] _ Hx.out Rd.nil_ Hn.out rfl hb (by decide)).mono ?_
    rintro e w1 ⟨rfl, hb1⟩
    go_wp2
    go_ret2
    exact .mk none 0 (by rw [HR.out, Hmc.out] <;> rfl) (by rw [HR.out]; exact Rd.nil_) hb1
set_option maxHeartbeats 1000000 in
theorem ImplSL_any (A : Option Addr) (n c : Nat) (ms : List M) (w : World) (hx : RdM w w.heap.size A ms) (hn : ms.length = n) (hA : A = none → n = 0 ∧ c = 0) (hb : n < 536870912) :
    Calls Tryz.prog 40 #[.slice A n c] w (RetI (slR ms) (elC ms []) w) := by
  have Hx := Lib.hid hx
  have Hn := Lib.hid hn
  have HA := Lib.hid hA
  have hcc := monC_nil ms
  clear hx hn hA
  by_cases hc : elC ms [] = 0
  · obtain ⟨E, ps, hE⟩ := elC_el hc
    have hN0 := hE.len
    have hpos := hE.pos
    have hR := slR_in2 hE hc
    have HE := Lib.hid hE
    rw [hc] at hcc
    have Hc := Lib.hid hc
    have Hcc := Lib.hid hcc
    have HR := Lib.hid hR
    obtain ⟨ks, hks⟩ : ∃ ks, ks = E.map fun f => (wordOf ps f).length := ⟨_, rfl⟩
    obtain ⟨N, hNN⟩ : ∃ N, N = E.length := ⟨_, rfl⟩
    have Hks : Hid (ks.length = N) := by show _ = _; rw [hks, hNN, List.length_map]
    have Hkb : Hid (∀ k ∈ ks, k ≤ 300) := fun k hk => by
      rw [hks] at hk
      obtain ⟨f, hf, rfl⟩ := List.mem_map.1 hk
      rw [hE.eq] at hf
      exact word_len hE.clo (sortM_mem.1 hf)
    have Hkp : Hid (∀ q, q < N → (((eltM ps).map (wordOf ps)).getD q []).length = ks.getD q 0) := fun q hq => by
      rw [hNN] at hq
      rw [hks, ← hE.eq, List.getD_eq_getElem?_getD, List.getD_eq_getElem?_getD, List.getElem?_map, List.getElem?_map, List.getElem?_eq_getElem hq]; rfl
    rw [← hks] at HR
    have HNN : Hid (N = (eltM ps).length) := by show _ = _; rw [hNN, hE.eq]
    rw [← hNN] at hN0 hpos
    have hN := hN0
    clear hE hc hcc hR hks hNN
    go_enter Tryz.func40, Tryz.ntmps40
    go_wp2_with fail
    refine (monoidOf_any A none n c 0 0 ms [] _ Hx.out Rd.nil_ Hn.out rfl HA.out (fun _ => ⟨rfl, rfl⟩) (by omega)).mono ?_
    rintro e w1 ⟨r, v, rfl, hb1, hr0, hs⟩
    obtain ⟨g0, rfl, hM, _⟩ := hs ps HE.out.clo Hcc.out
    obtain ⟨_, ev, wv, pl, vs, hMo, _, _, hW, hvl, hul, hws⟩ := hM
    rw [← HNN.out] at hvl hws
    obtain ⟨gW, cW, rfl⟩ := hW.some_ (by omega)
    rw [hvl] at hMo
    rw [Hcc.out]
    have cm := hMo.c1
    have HW := Lib.hid hW.rd
    have Hvl := Lib.hid hvl
    have Hws := Lib.hid hws
    have Hb1 := Lib.hid hb1
    have hz1 := hb1.size
    clear hMo hW hvl hws hb1 hs hr0 hul
    go_wp2_with fail
    go_loopw [7, 24] (fun v i wr => ∃ q : Nat, i = .int .i64 q ∧ q ≤ N ∧ Below w1.heap.size w1 wr ∧ OwI 2 wr w1.heap.size v (cntOf (ks.take q))) (fun _ i _ => N - (intOf i).toNat)
    case atStart => exact ⟨0, rfl, by omega, Below.refl _ _, OwI.nil_⟩
    case round =>
      obtain ⟨q, rfl, hq, hb', ho⟩ := hrel
      obtain ⟨A1, c1, hv, _⟩ := ho.form
      obtain ⟨k1, hk1⟩ : ∃ k1, (cntOf (ks.take q)).length = k1 := ⟨_, rfl⟩
      rw [hk1] at hv
      subst hv
      have Hk1 := Lib.hid hk1
      have Hb := Lib.hid hb'
      have Ho := Lib.hid ho
      clear hb' ho hk1
      by_cases hqN : q < N
      · have hqi : (q : Int) < (N : Int) := by omega
        obtain ⟨k, hkk⟩ : ∃ k, ks.getD q 0 = k := ⟨_, rfl⟩
        have Hkq := Lib.hid hkk
        have hk300 : k ≤ 300 := by
          rw [← hkk, List.getD_eq_getElem?_getD, List.getElem?_eq_getElem (by rw [Hks.out]; exact hqN)]
          exact Hkb.out _ (List.getElem_mem _)
        have hwq := Hws.out q hqN
        obtain ⟨Au, cu, hvu, _⟩ := hwq.form
        rw [Hkp.out q hqN, hkk] at hvu
        have e0 : wr.cell? ⟨gW, q, none⟩ = some (.slice Au k cu) := by
          obtain ⟨b', o', e', _, hcw⟩ := RdV.at_ (Rd.below HW.out Hb.out) (k := q) (by rw [Hvl.out]; exact hqN)
          injection e' with e'
          injection e' with e1 e2 _
          subst e1 e2
          rw [Nat.zero_add, hvu] at hcw
          exact hcw
        clear hkk hwq hvu
        have hcs : cntOf (ks.take (q + 1)) = cntStep (cntOf (ks.take q)) k := by
          rw [List.take_add_one, List.getElem?_eq_getElem (by rw [Hks.out]; exact hqN)]
          have e : ks[q]'(by rw [Hks.out]; exact hqN) = k := by have := Hkq.out; rw [List.getD_eq_getElem?_getD, List.getElem?_eq_getElem (by rw [Hks.out]; exact hqN)] at this; exact this
          rw [e]; exact cntOf_snoc _ _
        have Hcs := Lib.hid hcs
        have hgk : 0 ≤ gi (cntOf (ks.take q)) k ∧ gi (cntOf (ks.take q)) k ≤ 300 := by
          unfold cntOf
          rw [foldl_gi]
          have h1 := List.count_le_length (a := k) (l := ks.take q)
          rw [List.length_take] at h1
          have h2 : gi ([] : List Int) k = 0 := rfl
          have := Hks.out
          omega
        have hC300 : k1 ≤ 301 := by
          have h1 := Hk1.out
          unfold cntOf at h1
          rw [foldl_len] at h1
          have h2 : mxTo (fun i => (ks.take q).getD i 0 + 1) (ks.take q).length ≤ 301 := mxTo_le fun j hj => by
            have h3 : (ks.take q).getD j 0 ∈ ks.take q := by simp only [List.getD_eq_getElem?_getD, List.getElem?_eq_getElem hj, Option.getD_some]; exact List.getElem_mem hj
            have := Hkb.out _ (List.mem_of_mem_take h3)
            omega
          have h5 : ([] : List Int).length = 0 := rfl
          rw [h5] at h1
          omega
        obtain ⟨C, hC⟩ : ∃ C, C = cntOf (ks.take q) := ⟨_, rfl⟩
        rw [← hC] at Ho Hk1 Hcs hgk
        have hg0 := hgk.1
        have hg1 := hgk.2
        have HC := Lib.hid hC
        clear hcs hgk hC
        go_wp2_with fail
        go_loopw [7] (fun v wr => ∃ (t : Nat) (A1 : Option Addr) (c1 : Nat), v = .slice A1 (k1 + t) c1 ∧ t ≤ k + 1 - k1 ∧ OwI 2 wr w1.heap.size (.slice A1 (k1 + t) c1) (C ++ List.replicate t 0) ∧ Below w1.heap.size w1 wr) (fun v _ => k + 1 - slen v)
        case atStart => exact ⟨0, A1, c1, rfl, by omega, by simpa using Ho.out, Hb.out⟩
        case round =>
          clear Ho Hb
          obtain ⟨t, A1, c1, rfl, ht, ho, hb⟩ := hrel
          have Ho := Lib.hid ho
          have Hb := Lib.hid hb
          have hsz := hb.size
          have hlt : (C ++ List.replicate t (0 : Int)).length = k1 + t := by rw [List.length_append, List.length_replicate, Hk1.out]
          have Hlt := Lib.hid hlt
          clear ho hb hlt
          skip
          by_cases hle : k1 + t ≤ k
          · have hli : ((k1 + t : Nat) : Int) ≤ (k : Int) := by omega
            have hli2 : (k1 : Int) + (t : Int) ≤ (k : Int) := by omega
            go_wp2_with (at_builtin; refine wpList_pushI rfl (.tmp 33) (.tmp 34) rfl w1.heap.size (.slice A1 (k1 + t) c1) (C ++ List.replicate t 0) rfl (Ho.out.alloc _) wr.heap.size 1 0 rfl ((Blk.new _ _ _).cell 0) (by rw [Hlt.out]; omega) (by simp; omega) (wr.heap.size + 1) (by simp) ?_; intro g' cap w4 ho' hgr hg' hlt'; have Hb4 := Lib.hid (((Ho.out.alloc (.cells #[I 0] 2)).bel (Hb.out.alloc hsz _) hgr (Nat.le_refl _) (by simp; omega))); rw [Hlt.out] at ho' ⊢; have Ho4 : Hid (OwI 2 w4 w1.heap.size (.slice (some ⟨g', 0, none⟩) (k1 + (t + 1)) cap) (C ++ List.replicate (t + 1) 0)) := (by rw [List.append_assoc, show List.replicate t (0 : Int) ++ [0] = List.replicate (t + 1) 0 from (List.replicate_succ').symm] at ho'; exact ho'); clear ho' hgr hg' hlt')
            go_roundw
            case rel => exact ⟨t + 1, some ⟨g', 0, none⟩, cap, by first | rfl | (simp; omega), by omega, Ho4.out, Hb4.out⟩
            case measure => simp [slen]; omega
          · have hli : ¬ ((k1 + t : Nat) : Int) ≤ (k : Int) := by omega
            have hli2 : ¬ (k1 : Int) + (t : Int) ≤ (k : Int) := by omega
            have hte : t = k + 1 - k1 := by omega
            have Hst : Hid (cntStep C k = (C ++ List.replicate t 0).set k (gi (C ++ List.replicate t 0) k + 1)) := by show _ = _; unfold cntStep; rw [Hk1.out, ← hte]
            obtain ⟨g, c', he, hgB, hgl, e1, z1, hs⟩ := Ho.out.spot (k := k) (by rw [Hlt.out]; omega)
            rw [Hlt.out] at he
            injection he with he1 _ he2
            subst he1 he2
            rw [gi_pad] at e1
            have Hs := Lib.hid hs
            have hgp := gi_pad C t k
            have Hgp := Lib.hid hgp
            obtain ⟨x, hx⟩ : ∃ x, x = gi C k := ⟨_, rfl⟩
            rw [← hx] at e1 hg0 hg1 Hgp
            have hki : (k : Int) < ((k1 + t : Nat) : Int) := by omega
            have hki2 : (k : Int) < (k1 : Int) + (t : Int) := by omega
            have Ho5 : Hid (OwI 2 (wr.setCell ⟨g, k, none⟩ (I (x + 1))) w1.heap.size (.slice (some ⟨g, 0, none⟩) (k1 + t) c1) (cntOf (ks.take (q + 1)))) := by
              show OwI _ _ _ _ _
              rw [Hcs.out, Hst.out, Hgp.out]
              exact Hs.out (x + 1)
            have Hb5 : Hid (Below w1.heap.size w1 (wr.setCell ⟨g, k, none⟩ (I (x + 1)))) := Hb.out.setCell (by exact hgB) _
            clear hs hgp hx
            go_wp2_with fail
            go_roundw
            case rel => exact ⟨q + 1, by go_num, by omega, Hb5.out, Ho5.out⟩
            case measure => simp [intOf]; omega
      · obtain rfl : q = N := by omega
        have hqi : ¬ ((q : Int) < (q : Int)) := by omega
        have htk : ks.take q = ks := List.take_of_length_le (by rw [Hks.out]; exact Nat.le_refl _)
        rw [htk, ← HR.out] at Hk1 Ho
        have Hbe := Lib.hid (Hb1.out.trans (Hb.out.mono hz1))
        clear htk
        go_wp2_with fail
        go_ret2
        exact .mk _ (by rw [Hc.out] <;> rfl) (Ho.out.mono hz1) Hbe.out
  · have hR := slR_out hc
    have HR := Lib.hid hR
    have Hcc := Lib.hid hcc
    obtain ⟨p0, p4⟩ := elC_p hc
    have hne : (elC ms [] != 0) = true := by simpa using hc
    clear hc hcc hR
    go_enter Tryz.func40, Tryz.ntmps40
    go_wp2_with fail
    refine (monoidOf_any A none n c 0 0 ms [] _ Hx.out Rd.nil_ Hn.out rfl HA.out (fun _ => ⟨rfl, rfl⟩) (by omega)).mono ?_
    rintro e w1 ⟨r, v, rfl, hb1, hr0, hs⟩
    rw [Hcc.out]
    have Hb1 := Lib.hid hb1
    clear hs hb1 hr0
    go_wp2
    go_ret2
    exact .mk _ rfl (by rw [HR.out]; exact OwI.nil_) Hb1.out
end Go.Proofs.YtchjegojcpbfpaaGreat

namespace Go.Proofs.YtchjegojcpbfpaaGreat
open Go.RowKit
set_option maxRecDepth 100000
def ups (n : Nat) : List Int := (List.range n).map fun k : Nat => (k : Int)
theorem ups_length (n : Nat) : (ups n).length = n := by simp [ups]
theorem ups_succ (n : Nat) : ups (n + 1) = ups n ++ [(n : Int)] := by simp [ups, List.range_succ]
theorem gi_ups {n k : Nat} (h : k < n) : gi (ups n) k = k := by simp [gi, ups, List.getD, h]
theorem points_any (n : Nat) (w : World) (hn : n < 1073741824) :
    Calls Tryz.prog 68 #[.int .i64 n] w fun e w' => ∃ v, e = .returned v ∧ OwI 2 w' w.heap.size v (ups n) ∧ Below w.heap.size w w' := by
  go_enter Tryz.func68, Tryz.ntmps68
  go_wp2
  go_loopw [3, 6] (fun v i wr => ∃ k : Nat, k ≤ n ∧ i = .int .i64 k ∧ OwI 2 wr w.heap.size v (ups k) ∧ Below w.heap.size w wr) (fun _ i _ => n - (intOf i).toNat)
  case atStart => exact ⟨0, by omega, rfl, OwI.nil_, by (repeat (first | with_reducible assumption | with_reducible exact Below.refl _ _ | with_reducible refine Below.setCell ?_ (by first | omega | (simp <;> omega)) _ | with_reducible refine Below.alloc ?_ (by first | omega | (simp <;> omega)) _ | with_reducible refine Below.drew ?_ | with_reducible refine Below.drewN ?_ _))⟩
  case round =>
    obtain ⟨k, hk, rfl, ho, hbel⟩ := hrel
    obtain ⟨A, c, hv, _⟩ := ho.form
    rw [ups_length] at hv
    subst hv
    have hsz := hbel.size
    by_cases hlt : k < n
    · go_wp2_with (at_builtin; refine wpList_pushI rfl (.tmp 9) (.tmp 11) rfl w.heap.size (.slice A k c) (ups k) rfl (ho.alloc _) wr.heap.size 1 k rfl ((Blk.new _ _ _).cell 0) (by rw [ups_length]; omega) (by simp; omega) (wr.heap.size + 1) (by simp) ?_; intro g' cap w4 ho' hgr hg' hlt')
      go_roundw
      case rel => exact ⟨k + 1, by omega, by go_num, by rw [ups_succ]; simpa [ups_length] using ho', (ho.alloc _).bel (hbel.alloc hsz _) hgr (by omega) (by simp; omega)⟩
      case measure => simp [intOf]; omega
    · obtain rfl : k = n := by omega
      go_wp2
      go_ret
      exact ⟨_, rfl, ho, hbel⟩
def idxF (p : Int → Bool) : List Int → Int
  | [] => -1
  | x :: xs => if p x then 0 else (if idxF p xs = -1 then -1 else idxF p xs + 1)
theorem idxF_found {p : Int → Bool} : ∀ {xs : List Int} {k : Nat}, k < xs.length → p (gi xs k) = true → (∀ j, j < k → p (gi xs j) = false) → idxF p xs = k
  | [], k, hk, _, _ => by simp at hk
  | x :: xs, 0, _, h, _ => by simp [gi] at h; simp [idxF, h]
  | x :: xs, k + 1, hk, h, hn => by
    have h0 : p x = false := by have := hn 0 (by omega); simpa [gi] using this
    have ih := idxF_found (p := p) (xs := xs) (k := k) (by simpa using hk) (by simpa [gi] using h) (fun j hj => by have := hn (j + 1) (by omega); simpa [gi] using this)
    unfold idxF
    rw [h0, ih]
    simp <;> omega
theorem idxF_none {p : Int → Bool} : ∀ {xs : List Int}, (∀ j, j < xs.length → p (gi xs j) = false) → idxF p xs = -1
  | [], _ => rfl
  | x :: xs, h => by
    have h0 : p x = false := by have := h 0 (by simp); simpa [gi] using this
    have ih := idxF_none (p := p) (xs := xs) fun j hj => by have := h (j + 1) (by simpa using hj); simpa [gi] using this
    unfold idxF
    rw [h0, ih]
    simp
theorem gi_mem {zs : List Int} {k : Nat} (h : k < zs.length) : gi zs k ∈ zs := by rw [gi_eq h]; exact List.getElem_mem h
theorem OwI.spotD {e : TypeId} {w : World} {B g n c : Nat} {zs : List Int} (h : OwI e w B (.slice (some ⟨g, 0, none⟩) n c) zs) {k : Nat} (hk : k < zs.length) :
    w.cell? ⟨g, k, none⟩ = some (I (gi zs k)) ∧ w.frozen? ⟨g, k, none⟩ = false ∧ g < w.heap.size ∧ B ≤ g ∧ ∀ z, OwI e (w.setCell ⟨g, k, none⟩ (I z)) B (.slice (some ⟨g, 0, none⟩) n c) (zs.set k z) := by
  obtain ⟨g', c', hv, h1, h2, h3, h4, h5⟩ := h.spot hk
  injection hv with hv e2 e3
  injection hv with hv
  injection hv with hv _ _
  subst hv
  exact ⟨h3, h4, h2, h1, h5⟩
theorem OwI.setCells {e : TypeId} {B g n c : Nat} : ∀ (L : List Int) (o : Nat) (w : World) (rs : List Int), OwI e w B (.slice (some ⟨g, 0, none⟩) n c) rs → o + L.length ≤ rs.length →
    ∃ rs', rs'.length = rs.length ∧ rs'.take o = rs.take o ∧ OwI e (w.setCells g o (L.map I)) B (.slice (some ⟨g, 0, none⟩) n c) rs'
  | [], o, w, rs, h, _ => ⟨rs, rfl, rfl, h⟩
  | z :: L, o, w, rs, h, hl => by
    simp only [List.length_cons] at hl
    have h1 := (h.spotD (k := o) (by omega)).2.2.2.2 z
    obtain ⟨rs', e1, e2, e3⟩ := OwI.setCells L (o + 1) _ _ h1 (by simp; omega)
    refine ⟨rs', by simpa using e1, ?_, e3⟩
    have := congrArg (List.take o) e2
    rw [List.take_take, List.take_take, Nat.min_eq_left (by omega), List.take_set_of_le (by omega)] at this
    exact this
theorem OwI.cut {e : TypeId} {w : World} {B g n c : Nat} {zs : List Int} (h : OwI e w B (.slice (some ⟨g, 0, none⟩) n c) zs) {i : Nat} (hi : i ≤ zs.length) : OwI e w B (.slice (some ⟨g, 0, none⟩) i c) (zs.take i) := by
  have hlen : (zs.take i).length = i := by simp; omega
  rcases h.2 with ⟨hv, _⟩ | ⟨g', cap, cur, hv, h1, h2, h3, h4, h5, h6⟩
  · cases hv
  · injection hv with hv e2 e3
    injection hv with hv
    injection hv with hv _ _
    subst hv e3
    refine ⟨by simp [cI], .inr ⟨g, c, cur, by rw [hlen], h1, h2, by omega, h4, h5, ?_⟩⟩
    rw [hlen, Nat.mul_one]
    have := congrArg (List.take i) h6
    rw [List.take_take, Nat.mul_one, Nat.min_eq_left (by omega)] at this
    rw [this]
    simp [cI, List.map_take]
theorem OwI.cap {e : TypeId} {w : World} {B g n c : Nat} {zs : List Int} (h : OwI e w B (.slice (some ⟨g, 0, none⟩) n c) zs) : zs.length = n ∧ n ≤ c := by
  rcases h.2 with ⟨hv, _⟩ | ⟨g', cap, cur, hv, h1, h2, h3, h4, h5, h6⟩
  · cases hv
  · injection hv with hv e2 e3
    subst e2 e3
    exact ⟨rfl, h3⟩
theorem OwI.rd {e : TypeId} {w : World} {B g n c : Nat} {zs : List Int} (h : OwI e w B (.slice (some ⟨g, 0, none⟩) n c) zs) : RdI w w.heap.size (some ⟨g, 0, none⟩) zs := by
  obtain ⟨A, c', hv, hr⟩ := h.form
  injection hv with hA _ _
  rw [hA]
  exact hr
def keepF (p : Int → Bool) (zs : List Int) : List Int := zs.filter fun z => !p z
theorem idxF_keep {p : Int → Bool} : ∀ {zs : List Int}, idxF p zs = -1 → keepF p zs = zs
  | [], _ => rfl
  | x :: xs, h => by
    unfold idxF at h
    cases hp : p x
    · rw [hp] at h
      simp only [Bool.false_eq_true, if_false] at h
      by_cases h1 : idxF p xs = -1
      · have := idxF_keep h1
        unfold keepF at this ⊢
        rw [List.filter_cons]
        simp [hp, this]
      · rw [if_neg h1] at h
        have : ∀ xs : List Int, -1 ≤ idxF p xs := by
          intro xs
          induction xs with
          | nil => simp [idxF]
          | cons y ys ih => unfold idxF; split <;> (try split) <;> omega
        have := this xs
        omega
    · rw [hp] at h; simp at h
theorem idxF_cases (p : Int → Bool) : ∀ zs : List Int, idxF p zs = -1 ∨ ∃ k : Nat, idxF p zs = k ∧ k < zs.length ∧ p (gi zs k) = true ∧ keepF p (zs.take k) = zs.take k
  | [] => .inl rfl
  | x :: xs => by
    cases hp : p x
    · rcases idxF_cases p xs with h | ⟨k, h1, h2, h3, h4⟩
      · left; unfold idxF; rw [hp, h]; rfl
      · right
        refine ⟨k + 1, ?_, by simpa using h2, by simpa [gi] using h3, ?_⟩
        · unfold idxF; rw [hp, h1]; simp <;> omega
        · unfold keepF at h4 ⊢
          rw [List.take_succ_cons, List.filter_cons]
          simp [hp, h4]
    · right
      refine ⟨0, ?_, by simp, by simpa [gi] using hp, rfl⟩
      unfold idxF; rw [hp]; rfl
theorem zeroI : ∀ w, (zeroValue 2).run Tryz.prog w = .ok (I 0) w := fun w => by kernel_rfl
theorem clearI {w : World} {B g n c a : Nat} {rs : List Int} (h : OwI 2 w B (.slice (some ⟨g, 0, none⟩) n c) rs) (hn : rs.length = n) (ha : a < n) (ty : TypeId) (c' : Nat) :
    ∃ w', (Builtin.clear_ #[39] ty #[.slice (some ⟨g, a, none⟩) (n - a) c']).run Tryz.prog w = .ok (.tuple #[]) w' ∧ OwI 2 w' B (.slice (some ⟨g, 0, none⟩) a c) (rs.take a) ∧ Below B w w' := by
  have hB := (h.spotD (k := a) (by omega)).2.2.2.1
  refine ⟨w.setCells g a (List.replicate (n - a) (I 0)), Lib.run_clear_slice w 39 2 ty (I 0) Tryz.underlying39 zeroI rfl rfl g a (n - a) c' (by omega) ?_ ?_, ?_, ?_⟩
  · intro j hj; rw [(h.spotD (k := a + j) (by omega)).1]; rfl
  · intro j hj; exact (h.spotD (k := a + j) (by omega)).2.1
  · obtain ⟨rs', e1, e2, e3⟩ := h.setCells (List.replicate (n - a) 0) a w rs (by simp; omega)
    rw [List.map_replicate] at e3
    rw [← e2]
    exact e3.cut (by omega)
  · have key : ∀ (L : List Value) (o : Nat) (w' : World), Below B w w' → Below B w (w'.setCells g o L) := by
      intro L
      induction L with
      | nil => intro o w' h; exact h
      | cons v L ih => intro o w' h; exact ih (o + 1) _ (h.setCell hB _)
    exact key _ _ _ (Below.refl _ _)
end Go.Proofs.YtchjegojcpbfpaaGreat

namespace Go.Proofs.YtchjegojcpbfpaaGreat
open Go.RowKit
set_option maxRecDepth 100000
def sel (q : Int → Bool) (n : Nat) : List Int := (ups n).filter q
theorem sel_succ (q : Int → Bool) (n : Nat) : sel q (n + 1) = sel q n ++ (if q n then [(n : Int)] else []) := by
  rw [sel, ups_succ, List.filter_append, sel]
  congr 1
  cases h : q n <;> simp [h]
theorem sel_length (q : Int → Bool) (n : Nat) : (sel q n).length ≤ n := by
  have := List.length_filter_le q (ups n)
  rw [ups_length] at this
  exact this
theorem ups_mem {n : Nat} {z : Int} (h : z ∈ ups n) : ∃ k : Nat, k < n ∧ z = k := by
  simp [ups] at h
  obtain ⟨k, hk, rfl⟩ := h
  exact ⟨k, hk, rfl⟩
theorem six_at {w : World} {g : Nat} {f : M} (hs : Six w g f) : ∀ j, j < 5 → w.cell? ⟨g, 1 + j, none⟩ = some (I (f.at j)) :=
  five (P := fun j => w.cell? ⟨g, 1 + j, none⟩ = some (I (f.at j))) hs.2.1 hs.2.2.1 hs.2.2.2.1 hs.2.2.2.2.1 hs.2.2.2.2.2
end Go.Proofs.YtchjegojcpbfpaaGreat

namespace Go.Proofs.YtchjegojcpbfpaaGreat
open Go.RowKit
set_option maxRecDepth 100000
theorem Blk.far6 {w : World} {g q : Nat} {t : TypeId} {cs : Array Value} (h : Blk w g t cs) (hq : g ≠ q) (m : M) : Blk (Go.Proofs.YtchjegojcpbfpaaGreat.st6 w q m) g t cs :=
  (((((h.far (p := ⟨q, 0, none⟩) hq _).far (p := ⟨q, 1, none⟩) hq _).far (p := ⟨q, 2, none⟩) hq _).far (p := ⟨q, 3, none⟩) hq _).far (p := ⟨q, 4, none⟩) hq _).far (p := ⟨q, 5, none⟩) hq _
end Go.Proofs.YtchjegojcpbfpaaGreat

namespace Go.Proofs.YtchjegojcpbfpaaGreat
open Go.RowKit
set_option maxRecDepth 100000
theorem or_fin : ∀ (m : Fin 32) (a : Fin 5), bits .or .i64 ((m.val : Nat) : Int) (wrap64 (2 ^ a.val)) = ((m.val ||| 2 ^ a.val : Nat) : Int) ∧ m.val ||| 2 ^ a.val < 32 := by decide +kernel
theorem or_run {m a : Nat} (hm : m < 32) (ha : a < 5) : bits .or .i64 (m : Int) (wrap64 (2 ^ a)) = ((m ||| 2 ^ a : Nat) : Int) ∧ m ||| 2 ^ a < 32 := or_fin ⟨m, hm⟩ ⟨a, ha⟩
theorem sel_ext {q q' : Int → Bool} : ∀ {n : Nat}, (∀ k : Nat, k < n → q k = q' k) → sel q n = sel q' n
  | 0, _ => rfl
  | n + 1, h => by rw [sel_succ, sel_succ, sel_ext fun k hk => h k (by omega), h n (by omega)]
theorem sel_far {q : Int → Bool} {n : Nat} : ∀ {N : Nat}, n ≤ N → (∀ k : Nat, n ≤ k → k < N → q k = false) → sel q N = sel q n
  | 0, h, _ => by obtain rfl : n = 0 := by omega
                  rfl
  | N + 1, h, hq => by
    by_cases e : n = N + 1
    · rw [e]
    · rw [sel_succ, hq N (by omega) (by omega), sel_far (by omega) fun k h1 h2 => hq k h1 (by omega)]
      simp
def bq (m : Nat) (z : Int) : Bool := m.testBit z.toNat
theorem bq_nat (m k : Nat) : bq m k = m.testBit k := rfl
def pts (m : Nat) : List Int := sel (bq m) 62
def im (f : M) : Nat → Nat
  | 0 => 0
  | k + 1 => im f k ||| 2 ^ (f.at k).toNat
theorem im_lt {f : M} (hf : Valid f) : ∀ k : Nat, (k : Int) ≤ f.p → im f k < 32
  | 0, _ => by simp [im]
  | k + 1, h => by
    have h5 := hf.p5
    have b1 := hf.lo k (by omega) (by omega)
    have b2 := hf.hi k (by omega) (by omega)
    exact (or_run (im_lt hf k (by omega)) (a := (f.at k).toNat) (by omega)).2
theorem im_bit (f : M) (j : Nat) : ∀ k, (im f k).testBit j = true ↔ ∃ i, i < k ∧ (f.at i).toNat = j
  | 0 => by simp [im]
  | k + 1 => by
    rw [im, Nat.testBit_or, Bool.or_eq_true, im_bit f j k, Nat.testBit_two_pow, decide_eq_true_eq]
    constructor
    · rintro (⟨i, hi, e⟩ | e)
      · exact ⟨i, by omega, e⟩
      · exact ⟨k, by omega, e⟩
    · rintro ⟨i, hi, e⟩
      by_cases h : i = k
      · subst h; exact .inr e
      · exact .inl ⟨i, by omega, e⟩
theorem l01Image_any (f : M) (w : World) (hf : Valid f) :
    Calls Tryz.prog 95 #[.agg (mc f)] w fun e w' => e = .returned (I (im f f.p.toNat)) ∧ Below w.heap.size w w' := by
  have hp1 := hf.p1
  have hp5 := hf.p5
  go_enter Tryz.func95, Tryz.ntmps95
  go_wp2
  go_loopw [3, 4] (fun s i wr => ∃ k : Nat, (k : Int) ≤ f.p ∧ s = I (im f k) ∧ i = .int .i64 k ∧ Blk wr w.heap.size 31 (mc f) ∧ Below w.heap.size w wr) (fun _ i _ => 5 - (intOf i).toNat)
  case atStart => exact ⟨0, by omega, rfl, rfl, Blk.new _ _ _, by (repeat (first | with_reducible assumption | with_reducible exact Below.refl _ _ | with_reducible refine Below.setCell ?_ (by first | omega | (simp <;> omega)) _ | with_reducible refine Below.alloc ?_ (by first | omega | (simp <;> omega)) _ | with_reducible refine Below.drew ?_ | with_reducible refine Below.drewN ?_ _))⟩
  case round =>
    obtain ⟨k, hk, rfl, rfl, hB, hbel⟩ := hrel
    have c0 : wr.cell? ⟨w.heap.size, 0, none⟩ = some (I f.p) := hB.cell 0
    by_cases hlt : (k : Int) < f.p
    · have c1 := hB.at_ (k := k) (by omega)
      have b1 := hf.lo k (by omega) hlt
      have b2 := hf.hi k (by omega) hlt
      have ho := (or_run (im_lt hf k hk) (a := (f.at k).toNat) (by omega)).1
      have Hi : Hid (im f (k + 1) = im f k ||| 2 ^ (f.at k).toNat) := rfl
      go_wp2
      go_roundw
      case rel => exact ⟨k + 1, by omega, by rw [Hi.out], by go_num, hB, hbel⟩
      case measure => simp [intOf]; omega
    · obtain rfl : k = f.p.toNat := by omega
      go_wp2
      go_ret
      exact ⟨rfl, hbel⟩
/-! ### cyclic points -/
def back (f : M) (k : Nat) : Nat → Bool
  | 0 => false
  | n + 1 => back f k n || decide (go' f k (n + 1) = k)
end Go.Proofs.YtchjegojcpbfpaaGreat

namespace Go.Proofs
open Go.Shelf
def Tryz.lays125_ren : Go.Shelf.Ren := ⟨fun | 125 => 125 | 128 => 139 | 129 => 140 | n => n, fun | 46 => 82 | 3 => 3 | 51 => 113 | 53 => 103 | 4 => 4 | 5 => 5 | 9 => 9 | n => n, fun | n => n⟩
theorem Tryz.lays125 : Go.Proofs.Lays.n125 Tryz.prog Tryz.lays125_ren := {
  mixed := by kernel_rfl
  f125 := Tryz.func125.trans (congrArg some (by kernel_rfl))
  f128 := Tryz.func139.trans (congrArg some (by kernel_rfl))
  f129 := Tryz.func140.trans (congrArg some (by kernel_rfl))
  t3 := Tryz.underlying3
  a3 := Tryz.isAgg3
  z3 := Tryz.sizeOf3
  v3 := Tryz.zeroValue3
  t4 := Tryz.underlying4
  a4 := Tryz.isAgg4
  z4 := Tryz.sizeOf4
  v4 := Tryz.zeroValue4
  t5 := Tryz.underlying5
  a5 := Tryz.isAgg5
  z5 := Tryz.sizeOf5
  v5 := Tryz.zeroValue5
  t9 := Tryz.underlying9
  a9 := Tryz.isAgg9
  z9 := Tryz.sizeOf9
  v9 := Tryz.zeroValue9
  t46 := Tryz.underlying82
  a46 := Tryz.isAgg82
  z46 := Tryz.sizeOf82
  v46 := Tryz.zeroValue82
  t51 := Tryz.underlying113
  a51 := Tryz.isAgg113
  z51 := Tryz.sizeOf113
  v51 := Tryz.zeroValue113
  t53 := Tryz.underlying103
  a53 := Tryz.isAgg103
  z53 := Tryz.sizeOf103
  v53 := Tryz.zeroValue103 }
theorem Tryz.bits_Len (x : Int) (w : World) (h0 : 0 ≤ x) (h1 : x ≤ 18446744073709551615) :
    Calls Tryz.prog 125 #[.int .u64 x] w fun e w' => e = .returned (.int .i64 (Lib.bitLen x.toNat)) ∧ w' = w := Any.bits_Len Tryz.lays125 x w h0 h1
end Go.Proofs

namespace Go.Proofs.YtchjegojcpbfpaaGreat
open Go.RowKit
set_option maxRecDepth 100000
theorem isNaN_any (x : Int) (w : World) : Calls Tryz.prog 123 #[I x] w fun e w' => e = .returned (.bool false) ∧ w = w' := by
  have h : (x != x) = false := by simp
  go_enter Tryz.func123, Tryz.ntmps123
  go_wp2
  go_ret
  exact ⟨by simp, rfl⟩
theorem less_any (x y : Int) (w : World) : Calls Tryz.prog 153 #[I x, I y] w fun e w' => e = .returned (.bool (decide (x < y))) ∧ w = w' := by
  cases h : decide (x < y)
  · have h' : ¬ x < y := by simpa using h
    go_enter Tryz.func153, Tryz.ntmps153
    go_wp2_with (go_at_call 123; refine (isNaN_any _ _).mono ?_; rintro e w' ⟨rfl, rfl⟩)
    go_ret
    exact ⟨rfl, rfl⟩
  · have h' : x < y := by simpa using h
    go_enter Tryz.func153, Tryz.ntmps153
    go_wp2_with (go_at_call 123; refine (isNaN_any _ _).mono ?_; rintro e w' ⟨rfl, rfl⟩)
    go_ret
    exact ⟨rfl, rfl⟩
def SortedTo (cs : List Int) (i : Nat) : Prop := ∀ a b, a < b → b < i → gi cs a ≤ gi cs b
def Ins (cs : List Int) (i j : Nat) : Prop := (∀ a b, a < b → b ≤ i → a ≠ j → b ≠ j → gi cs a ≤ gi cs b) ∧ ∀ b, j < b → b ≤ i → gi cs j ≤ gi cs b
theorem Ins.start {cs : List Int} {i : Nat} (h : SortedTo cs i) : Ins cs i i := ⟨fun a b hab hb _ hbi => h a b hab (by omega), fun b h1 h2 => by omega⟩
theorem Ins.stop {cs : List Int} {i j : Nat} (h : Ins cs i j) (hs : j = 0 ∨ gi cs (j - 1) ≤ gi cs j) : SortedTo cs (i + 1) := by
  have main : ∀ a b, a < b → b ≤ i → gi cs a ≤ gi cs b := by
    intro a b hab hb
    by_cases h1 : a = j
    · subst h1; exact h.2 b hab hb
    · by_cases h2 : b = j
      · subst h2
        rcases hs with h0 | h0
        · omega
        · by_cases h3 : a = b - 1
          · subst h3; exact h0
          · exact Int.le_trans (h.1 a (b - 1) (by omega) (by omega) h1 (by omega)) h0
      · exact h.1 a b hab hb h1 h2
  exact fun a b hab hb => main a b hab (by omega)
def swapped (cs : List Int) (j : Nat) : List Int := (cs.set j (gi cs (j - 1))).set (j - 1) (gi cs j)
theorem gi_set {cs : List Int} {k j : Nat} {v : Int} (hk : k < cs.length) : gi (cs.set k v) j = if j = k then v else gi cs j := by
  unfold gi
  by_cases h : j = k
  · subst h; simp [List.getD, hk]
  · rw [if_neg h]; simp [List.getD, List.getElem?_set_ne (Ne.symm h)]
theorem gi_swapped {cs : List Int} {j : Nat} (hj : j < cs.length) (h0 : 0 < j) (k : Nat) : gi (swapped cs j) k = if k = j - 1 then gi cs j else if k = j then gi cs (j - 1) else gi cs k := by
  unfold swapped
  rw [gi_set (by simp; omega), gi_set hj]
theorem Ins.step {cs : List Int} {i j : Nat} (h : Ins cs i j) (hj : j < cs.length) (h0 : 0 < j) (hji : j ≤ i) (hlt : gi cs j < gi cs (j - 1)) : Ins (swapped cs j) i (j - 1) := by
  constructor
  · intro a b hab hb ha1 hb1
    rw [gi_swapped hj h0, gi_swapped hj h0, if_neg ha1, if_neg hb1]
    by_cases h1 : a = j
    · subst h1
      rw [if_pos rfl, if_neg (by omega)]
      exact h.1 (a - 1) b (by omega) hb (by omega) (by omega)
    · rw [if_neg h1]
      by_cases h2 : b = j
      · subst h2
        rw [if_pos rfl]
        exact h.1 a (b - 1) (by omega) (by omega) h1 (by omega)
      · rw [if_neg h2]; exact h.1 a b hab hb h1 h2
  · intro b hb1 hb2
    rw [gi_swapped hj h0, gi_swapped hj h0, if_pos rfl, if_neg (by omega)]
    by_cases h2 : b = j
    · rw [if_pos h2]; omega
    · rw [if_neg h2]; exact h.2 b (by omega) hb2
theorem perm_swapped {cs : List Int} {j : Nat} (hj : j < cs.length) (h0 : 0 < j) : (swapped cs j).Perm cs := by
  rw [List.perm_iff_count]
  intro x
  have e1 : gi cs j = cs[j] := gi_eq hj
  have e2 : gi cs (j - 1) = cs[j - 1] := gi_eq (by omega)
  unfold swapped
  rw [List.count_set (by simp; omega), List.count_set hj]
  rw [List.getElem_set_ne (by omega)]
  have hp1 : 0 < cs.count cs[j] := List.count_pos_iff.2 (List.getElem_mem _)
  have hp2 : 0 < cs.count cs[j - 1] := List.count_pos_iff.2 (List.getElem_mem _)
  rw [e1, e2]
  generalize cs[j] = u at *
  generalize cs[j - 1] = v at *
  by_cases c1 : u = x
  · subst c1
    by_cases c2 : v = u
    · subst c2; simp; omega
    · simp [c2]; omega
  · by_cases c2 : v = x
    · subst c2; simp [c1]
    · simp [c1, c2]
theorem drewN_grown {w w' : World} {row : Option Nat} (h : w.grownBy w' row) (n : Nat) : w.grownBy (w'.drewN n) row := ⟨h.os, h.tape, h.output, h.size, h.block⟩
theorem insertion_any (v : Value) (B : Nat) (zs : List Int) (n : Nat) (w : World) (hown : OwI 2 w B v zs) (hn : zs.length = n) (hb : n < 1073741824) :
    Calls Tryz.prog 147 #[v, .int .i64 0, .int .i64 n] w fun e w' => e = .returned (.tuple #[]) ∧ ∃ cs, cs.Perm zs ∧ SortedTo cs n ∧ OwI 2 w' B v cs ∧ w.grownBy w' v.ownBlock := by
  obtain ⟨A, c, rfl, _⟩ := hown.form
  have Hn := Lib.hid hn
  clear hn
  go_enter Tryz.func147, Tryz.ntmps147
  go_wp2
  go_loopw [6] (fun i wr => ∃ k : Nat, 1 ≤ k ∧ (k ≤ n ∨ k = 1) ∧ i = .int .i64 k ∧ ∃ cs : List Int, Hid (cs.Perm zs ∧ SortedTo cs k) ∧ OwI 2 wr B (.slice A zs.length c) cs ∧ w.grownBy wr (Value.slice A zs.length c).ownBlock) (fun i _ => n - (intOf i).toNat)
  case atStart => exact ⟨1, by omega, by omega, rfl, zs, ⟨List.Perm.refl _, fun a b h1 h2 => by omega⟩, hown, World.grownBy.refl w _⟩
  case round =>
    obtain ⟨k, hk1, hk2, rfl, cs, hcs, ho, hg⟩ := hrel
    by_cases hlt : k < n
    · go_wp2_with fail
      have hk3 : k < n := hlt
      clear hlt
      go_loopw [7] (fun jv wq => ∃ j : Nat, j ≤ k ∧ jv = .int .i64 j ∧ ∃ ds : List Int, Hid (ds.Perm zs ∧ Ins ds k j) ∧ OwI 2 wq B (.slice A zs.length c) ds ∧ w.grownBy wq (Value.slice A zs.length c).ownBlock) (fun jv _ => (intOf jv).toNat)
      case atStart => exact ⟨k, by omega, rfl, cs, ⟨hcs.out.1, Ins.start hcs.out.2⟩, ho, hg⟩
      case round =>
        clear ho hg
        obtain ⟨j, hj, rfl, ds, hds, ho, hg⟩ := hrel
        have hlen : ds.length = n := by rw [hds.out.1.length_eq, Hn.out]
        match j, hj, hds with
        | 0, hj, hds =>
          have Hs : Hid (ds.Perm zs ∧ SortedTo ds (k + 1)) := ⟨hds.out.1, hds.out.2.stop (.inl rfl)⟩
          clear hlen
          have hgt : decide ((0 : Int) < 0) = false := by decide
          go_wp2_with fail
          go_quiet ((go_at_call 153; exact Calls.quiet_of_same ((less_any _ _ _).mono fun _ _ h => ⟨h.1, h.2.symm⟩)))
          go_wp2
          go_roundw
          case rel => exact ⟨k + 1, by omega, by omega, by go_num, ds, Hs, ho.drewN _, drewN_grown hg _⟩
          case measure => simp [intOf]; omega
        | q + 1, hj, hds =>
          obtain ⟨g, c', he, hgB, hgl, c1, z1, hs1⟩ := ho.spot (k := q + 1) (by omega)
          obtain ⟨_, _, he', _, _, c2, z2, hs2⟩ := ho.spot (k := q) (by omega)
          injection he with he1 he3 he2
          subst he1 he2
          injection he' with he1 hx1 hx2
          injection he1 with he1
          injection he1 with he1 hx3
          subst he1
          clear hx1 hx2
          have Hlen := Lib.hid hlen
          have H1 := Lib.hid hs1
          have H2 := Lib.hid hs2
          have Ho := Lib.hid ho
          clear hlen hs1 hs2 he3 ho
          have b1 : (0 : Int) < (q : Int) + 1 := by omega
          have b2 : (0 : Int) ≤ (q : Int) + 1 := by omega
          have b3 : (q : Int) + 1 < (zs.length : Int) := by have := Hn.out; omega
          have b4 : (0 : Int) ≤ (q : Int) := by omega
          have b5 : (q : Int) < (zs.length : Int) := by have := Hn.out; omega
          have e1 : ((q : Int) + 1).toNat = q + 1 := by omega
          have e2 : IntKind.i64.wrap ((q : Int) + 1 - 1) = (q : Int) := IntWalk.i64_in _ (by omega) |>.trans (by omega)
          have hgt : decide ((0 : Int) < (q : Int) + 1) = true := decide_eq_true b1
          by_cases hl : gi ds (q + 1) < gi ds q
          · have hlb : decide (gi ds (q + 1) < gi ds q) = true := decide_eq_true hl
            go_wp2_with fail
            go_quiet ((go_at_call 153; exact Calls.quiet_of_same ((less_any _ _ _).mono fun _ _ h => ⟨h.1, h.2.symm⟩)))
            go_wp2_with fail
            have Hs : Hid ((swapped ds (q + 1)).Perm zs ∧ Ins (swapped ds (q + 1)) k q) :=
              ⟨(perm_swapped (by have := Hlen.out; have := Hn.out; omega) (by omega)).trans hds.out.1, hds.out.2.step (by have := Hlen.out; have := Hn.out; omega) (by omega) hj (by simpa using hl)⟩
            go_region
            go_wp2
            go_roundw
            case rel =>
              have h1 := H1.out (gi ds q)
              obtain ⟨g2, _, he2, _, _, _, _, h2⟩ := h1.spot (k := q) (by have := Hlen.out; have := Hn.out; simp; omega)
              injection he2 with he2 _ _
              injection he2 with he2
              injection he2 with he2 _
              subst he2
              exact ⟨q, by omega, by go_num, swapped ds (q + 1), Hs, (h2 (gi ds (q + 1))).of_heap rfl, grownBy_set (grownBy_set (drewN_grown hg _))⟩
            case measure => simp [intOf]
          · have hlb : decide (gi ds (q + 1) < gi ds q) = false := decide_eq_false hl
            have Hs : Hid (ds.Perm zs ∧ SortedTo ds (k + 1)) := ⟨hds.out.1, hds.out.2.stop (.inr (by simpa using hl))⟩
            go_wp2_with fail
            go_quiet ((go_at_call 153; exact Calls.quiet_of_same ((less_any _ _ _).mono fun _ _ h => ⟨h.1, h.2.symm⟩)))
            go_wp2
            go_roundw
            case rel => exact ⟨k + 1, by omega, by omega, by go_num, ds, Hs, Ho.out.drewN _, drewN_grown hg _⟩
            case measure => simp [intOf]; omega
    · have Hfin : Hid (cs.Perm zs ∧ SortedTo cs n) := ⟨hcs.out.1, fun a b h1 h2 => hcs.out.2 a b h1 (by omega)⟩
      go_wp2
      go_end0
      exact ⟨rfl, cs, Hfin.out.1, Hfin.out.2, ho, hg⟩
theorem pdq_any (v : Value) (B : Nat) (zs : List Int) (n : Nat) (lim : Int) (w : World) (hown : OwI 2 w B v zs) (hn : zs.length = n) (hb : n ≤ 12) :
    Calls Tryz.prog 141 #[v, .int .i64 0, .int .i64 n, .int .i64 lim] w fun e w' => e = .returned (.tuple #[]) ∧ ∃ cs, cs.Perm zs ∧ SortedTo cs n ∧ OwI 2 w' B v cs ∧ w.grownBy w' v.ownBlock := by
  have Hn := Lib.hid hn
  have Ho := Lib.hid hown
  clear hn hown
  have h1 : (n : Int) ≤ 12 := by omega
  go_enter Tryz.func141, Tryz.ntmps141
  go_wp2_with fail
  refine wp_loop_rounds 1 ?_
  rw [rounds_succ]
  go_wp2_with fail
  refine (insertion_any v B zs n _ Ho.out Hn.out (by omega)).mono ?_
  rintro e w1 ⟨rfl, H⟩
  have HH := Lib.hid H
  clear H
  go_wp2
  exact bodyPost_ret (v := .tuple #[]) (by simp [results, Tryz.results141, go_sem]) rfl ⟨rfl, HH.out⟩
theorem sortI_any (v : Value) (B : Nat) (zs : List Int) (w : World) (hown : OwI 2 w B v zs) (hb : zs.length ≤ 12) :
    Calls Tryz.prog 127 #[v] w fun e w' => e = .returned (.tuple #[]) ∧ ∃ cs, cs.Perm zs ∧ SortedTo cs zs.length ∧ OwI 2 w' B v cs ∧ w.grownBy w' v.ownBlock := by
  obtain ⟨A, c, rfl, _⟩ := hown.form
  have Ho := Lib.hid hown
  clear hown
  have h0 : (0 : Int) ≤ (zs.length : Int) := by omega
  have h1 : (zs.length : Int) ≤ 12 := by omega
  go_enter Tryz.func127, Tryz.ntmps127
  go_wp2_with fail
  refine (Tryz.bits_Len (zs.length : Int) _ (by omega) (by omega)).mono ?_
  rintro e w1 ⟨rfl, rfl⟩
  go_wp2_with fail
  refine (pdq_any _ B zs zs.length _ _ Ho.out rfl hb).mono ?_
  rintro e w2 ⟨rfl, H⟩
  have HH := Lib.hid H
  clear H
  go_wp2
  go_end0
  exact ⟨rfl, HH.out⟩
end Go.Proofs.YtchjegojcpbfpaaGreat

namespace Go.Proofs.YtchjegojcpbfpaaGreat
open Go.RowKit
def dd : List Int → List Int
  | [] => []
  | [x] => [x]
  | x :: y :: r => if x = y then dd (y :: r) else x :: dd (y :: r)
theorem dd_mem {z : Int} : ∀ l : List Int, z ∈ dd l ↔ z ∈ l
  | [] => Iff.rfl
  | [x] => Iff.rfl
  | x :: y :: r => by
    rw [dd]
    split
    · rename_i h
      rw [dd_mem (y :: r), h]
      simp
    · rw [List.mem_cons, dd_mem (y :: r)]; simp
theorem dd_strict : ∀ {l : List Int}, l.Pairwise (· ≤ ·) → (dd l).Pairwise (· < ·)
  | [], _ => List.Pairwise.nil
  | [x], _ => by simp [dd]
  | x :: y :: r, h => by
    have h2 := List.pairwise_cons.1 h
    rw [dd]
    split
    · exact dd_strict h2.2
    · rename_i hne
      refine List.pairwise_cons.2 ⟨fun z hz => ?_, dd_strict h2.2⟩
      rw [dd_mem] at hz
      have h3 := h2.1 y (by simp)
      have h4 : y ≤ z := by
        rcases List.mem_cons.1 hz with rfl | hz
        · exact Int.le_refl _
        · exact (List.pairwise_cons.1 h2.2).1 z hz
      omega
theorem strict_ext : ∀ {a b : List Int}, a.Pairwise (· < ·) → b.Pairwise (· < ·) → (∀ z, z ∈ a ↔ z ∈ b) → a = b
  | [], [], _, _, _ => rfl
  | [], y :: b, _, _, h => by have := (h y).2 (by simp); simp at this
  | x :: a, [], _, _, h => by have := (h x).1 (by simp); simp at this
  | x :: a, y :: b, ha, hb, h => by
    have ha2 := List.pairwise_cons.1 ha
    have hb2 := List.pairwise_cons.1 hb
    have hxy : x = y := by
      have h1 := (h x).1 (by simp)
      have h2 := (h y).2 (by simp)
      rcases List.mem_cons.1 h1 with e | h1
      · exact e
      · rcases List.mem_cons.1 h2 with e | h2
        · exact e.symm
        · have := hb2.1 x h1; have := ha2.1 y h2; omega
    subst hxy
    rw [strict_ext ha2.2 hb2.2 fun z => ?_]
    constructor
    · intro hz
      rcases List.mem_cons.1 ((h z).1 (List.mem_cons_of_mem _ hz)) with e | h1
      · have := ha2.1 z hz; omega
      · exact h1
    · intro hz
      rcases List.mem_cons.1 ((h z).2 (List.mem_cons_of_mem _ hz)) with e | h1
      · have := hb2.1 z hz; omega
      · exact h1
theorem dd_snoc (x : Int) : ∀ {l : List Int}, l ≠ [] → dd (l ++ [x]) = if l.getLast? = some x then dd l else dd l ++ [x]
  | [], h => absurd rfl h
  | [y], _ => by
    simp only [List.cons_append, List.nil_append, dd, List.getLast?_singleton, Option.some.injEq]
    split <;> simp_all
  | y :: z :: r, _ => by
    have ih := dd_snoc x (l := z :: r) (by simp)
    simp only [List.cons_append] at ih ⊢
    rw [dd, dd, ih]
    have hl : (y :: z :: r).getLast? = (z :: r).getLast? := by simp [List.getLast?_cons_cons]
    rw [hl]
    split <;> split <;> simp
end Go.Proofs.YtchjegojcpbfpaaGreat
