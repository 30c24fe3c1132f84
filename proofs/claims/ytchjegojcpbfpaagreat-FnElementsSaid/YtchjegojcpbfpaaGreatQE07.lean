/- The contract of monoidOf; the lists are as the theorem states. The contract of spec.l02Elements; the lists are as the theorem states. Contracts of the marks on lists of maps; no conditions beyond those that each theorem states. What stands while a statement is walked: its arguments, the reference's result, the program's argument and result; ends of regions whose last call hands its value on; no conditions beyond those that each theorem states. Contracts of ElementsOf, SizeOf, IsElement and WordFor of both sides; the lists are as each theorem states. Contracts of the predicates on the elements of a monoid and of elementsThat; the monoid stands as the theorems say. Contracts of elementsThat and of the program's lists of elements that are such; the lists are as each theorem states. Contracts of CentreOf, IdempotentsOf, SideZeros, ZeroOf, IsCommutative and IsRegularIn of the program; the lists are as each theorem states. Contracts of IsCommutative and IsRegularIn of the program; the lists are as each theorem states. A map of a list in its block; parts of lists. -/
import Derived.Test.YtchjegojcpbfpaaGreatQE06
import Derived.OwnWalk
set_option linter.unusedSimpArgs false
set_option linter.unusedVariables false
namespace Go.Proofs.YtchjegojcpbfpaaGreat
open Go.RowKit
set_option maxRecDepth 100000
theorem MonAt.from {n : Int} {B B' g : Nat} {E : List M} {us : List (List Int)} {w : World} (h : MonAt n B g E us w) (hB : B' ≤ B) : MonAt n B' g E us w := by
  obtain ⟨ge, ev, wv, pl, vs, h1, h2, h3, h4, h5, h6, h7⟩ := h
  exact ⟨by omega, ev, wv, pl, vs, h1, h2, h3.mono hB, h4.mono hB, h5, h6, fun j hj => (h7 j hj).mono hB⟩
theorem infoN : (Tryz.prog.info? 3).map (fun i => (i.zero, i.size, i.bytes)) = some (some (.int .i64 0), 1, 8) := by kernel_rfl
theorem wpList_pushN {w : World} {ops : Array Oper} {rest : List Oper} {o : Oper} {a : Act} {Q : Exit → Act → World → Prop} (hgd : o.guard = none) (s x : Operand)
    (ho : o.op = .call { callee := .builtin .append, args := #[s, x], argTypes := #[77, 77] }) (B : Nat) (v : Value) (zs : List Int) (hs : a.eval s = v) (hown : OwI 3 w B v zs) (n : Nat) (hlen : zs.length = n)
    (g : Nat) (c : Nat) (z : Int) (hx : a.eval x = .slice (some ⟨g, 0, none⟩) 1 c) (hg : w.cell? ⟨g, 0, none⟩ = some (I z))
    (hn : n < 1073741824) (hB : B ≤ w.heap.size) (H : Nat) (hH : w.heap.size = H)
    (h : ∀ g' cap w', OwI 3 w' B (.slice (some ⟨g', 0, none⟩) (n + 1) cap) (zs ++ [z]) → w.grownBy w' v.ownBlock → (v.ownBlock = some g' ∨ g' = H) → g' < w'.heap.size →
      wpList Tryz.prog ops Q rest (a.put o.dst (.slice (some ⟨g', 0, none⟩) (n + 1) cap)) w') : wpList Tryz.prog ops Q (o :: rest) a w := by
  subst hlen
  obtain ⟨i, hi, hz0, hz1, hz2⟩ := info_parts infoN
  refine wpList_append_lies w hgd s x 77 ho B 3 i (.int .i64 0) 1 8 Tryz.underlying77 hi hz0 hz1 hz2 rfl (by decide) v zs.length (cI zs) hs hown ⟨g, 0, none⟩ 1 c [I z] hx rfl ?_ ?_ (by decide) (by unfold maxLen; omega) (by omega) hB H hH ?_
  · intro j u hj
    match j, hj with
    | 0, hj => simp at hj; subst hj; simpa [Addr.add] using hg
  · intro u hu; simp at hu; subst hu; rfl
  · intro g' cap w' h1 h2 h3 h4
    exact h g' cap w' (by unfold OwI; rw [cI_snoc]; simpa using h1) h2 h3 h4
theorem codeL_pts' {ms xs : List M} (h : codeL ms xs = 0) : 1 ≤ (gm ms 0).p ∧ (gm ms 0).p ≤ 5 ∧ Pts (gm ms 0).p ms ∧ Pts (gm ms 0).p xs ∧ 1 ≤ ms.length ∧ ms.length ≤ 6 := by
  obtain ⟨h1, h2, h3⟩ := codeL_zero.1 h
  have h4 := inR_true.1 h2
  rw [List.all_eq_true] at h1 h3
  have key : ∀ f, f ∈ ms ++ xs → Valid f ∧ f.p = (gm ms 0).p := fun f hf => ⟨(isMap_iff f).1 (h1 f hf), of_decide_eq_true (h3 f hf)⟩
  have h0 : gm ms 0 ∈ ms := by rw [gm_eq (by omega)]; exact List.getElem_mem _
  have hv := (key _ (List.mem_append_left _ h0)).1
  exact ⟨hv.p1, hv.p5, fun f hf => key f (List.mem_append_left _ hf), fun f hf => key f (List.mem_append_right _ hf), by omega, by omega⟩
abbrev eltM (ps : Met) : List M := sortM (ps.map (·.1))
def monC (ms xs : List M) : Int :=
  if codeL ms xs = 0 then
    match clo ms (gm ms 0).p with
    | none => 3
    | some ps => if xs.all (fun f => decide (f ∈ eltM ps)) then 0 else 4
  else codeL ms xs
theorem monC_code {ms xs : List M} (h : codeL ms xs ≠ 0) : monC ms xs = codeL ms xs := if_neg h
theorem monC_none {ms xs : List M} (h : codeL ms xs = 0) (hc : clo ms (gm ms 0).p = none) : monC ms xs = 3 := by simp [monC, h, hc]
theorem monC_in {ms xs : List M} {ps : Met} (h : codeL ms xs = 0) (hc : clo ms (gm ms 0).p = some ps) (hx : ∀ f ∈ xs, f ∈ eltM ps) : monC ms xs = 0 := by
  unfold monC
  rw [if_pos h, hc]
  simp only
  rw [if_pos]
  rw [List.all_eq_true]
  exact fun f hf => decide_eq_true (hx f hf)
theorem monC_out {ms xs : List M} {ps : Met} {f : M} (h : codeL ms xs = 0) (hc : clo ms (gm ms 0).p = some ps) (hf : f ∈ xs) (hn : f ∉ eltM ps) : monC ms xs = 4 := by
  unfold monC
  rw [if_pos h, hc]
  simp only
  rw [if_neg]
  rw [List.all_eq_true]
  exact fun h => hn (of_decide_eq_true (h f hf))
theorem monoidOf_any (A1 A2 : Option Addr) (n1 c1 n2 c2 : Nat) (ms xs : List M) (w : World) (hx : RdM w w.heap.size A1 ms) (hy : RdM w w.heap.size A2 xs) (hn : ms.length = n1) (hm : xs.length = n2)
    (hA1 : A1 = none → n1 = 0 ∧ c1 = 0) (hA2 : A2 = none → n2 = 0 ∧ c2 = 0) (hb : n1 + n2 < 1073741824) :
    Calls Tryz.prog 66 #[.slice A1 n1 c1, .slice A2 n2 c2] w fun e w' => ∃ r v, e = .returned (.tuple #[r, v, I (monC ms xs)]) ∧ Below w.heap.size w w' ∧ (monC ms xs ≠ 0 → r = .pointer none ∧ v = .slice none 0 0) ∧
      ∀ ps, clo ms (gm ms 0).p = some ps → monC ms xs = 0 → ∃ g, r = .pointer (some ⟨g, 0, none⟩) ∧ MonAt (gm ms 0).p w.heap.size g (eltM ps) ((eltM ps).map (wordOf ps)) w' ∧ OwI 3 w' w.heap.size v (xs.map fun f => (ix (eltM ps) f : Int)) := by
  have Hx := Lib.hid hx
  have Hy := Lib.hid hy
  have Hn := Lib.hid hn
  have Hm := Lib.hid hm
  have HA1 := Lib.hid hA1
  have HA2 := Lib.hid hA2
  clear hx hy hn hm hA1 hA2
  go_enter Tryz.func66, Tryz.ntmps66
  go_wp2_with fail
  refine (listCode_any A1 A2 n1 c1 n2 c2 ms xs _ Hx.out Hy.out Hn.out Hm.out HA1.out HA2.out hb).mono ?_
  rintro e w1 ⟨rfl, hb1⟩
  by_cases hc : codeL ms xs = 0
  · obtain ⟨q1, q2, q3, q4, q5, q6⟩ := codeL_pts' hc
    have Hc := Lib.hid hc
    have H3 := Lib.hid q3
    have H4 := Lib.hid q4
    have Hb1 := Lib.hid hb1
    rw [hc]
    have hx1 := Rd.below Hx.out hb1
    obtain ⟨b, off, rfl, hbb, x0, x1, x2, x3, x4, x5⟩ := RdM.at_ hx1 (k := 0) (by omega)
    rw [Nat.zero_mul, Nat.add_zero] at x0
    have hl1 : 0 < n1 := by have := Hn.out; omega
    clear hc q3 q4 hb1 hx1 x1 x2 x3 x4 x5
    go_wp2_with fail
    refine (newMonoid_any (some ⟨b, off, none⟩) n1 c1 ms (gm ms 0).p w1 (Rd.more (Rd.below Hx.out Hb1.out) Hb1.out.size) Hn.out (by omega) q1 q2 H3.out).mono ?_
    rintro e w2 ⟨r, rfl, hb2, _, hsome⟩
    have Hb2 := Lib.hid (Hb1.out.trans (hb2.mono Hb1.out.size))
    clear x0
    cases hclo : clo ms (gm ms 0).p with
    | none =>
      have hcl : cloC ms (gm ms 0).p = 3 := by rw [cloC, hclo]; rfl
      have hmc := monC_none Hc.out hclo
      rw [hcl]
      clear hsome hb2
      go_wp2
      go_ret3
      exact ⟨_, _, by rw [hmc] <;> rfl, Hb2.out, fun _ => ⟨rfl, rfl⟩, fun ps h => (by rw [hclo] at h; cases h)⟩
    | some ps =>
      have hcl : cloC ms (gm ms 0).p = 0 := by rw [cloC, hclo]; rfl
      obtain ⟨g, rfl, hMA⟩ := hsome ps hclo
      rw [hcl]
      obtain ⟨E, hE⟩ : ∃ E, E = sortM (ps.map (·.1)) := ⟨_, rfl⟩
      rw [← hE] at hMA
      have hgd := (clo_good hclo).1
      have hEl : E.length ≤ 300 := by rw [hE, sortM_length hgd.nd, List.length_map]; exact hgd.len
      have HMA := Lib.hid hMA
      have HE := Lib.hid hE
      have Hclo := Lib.hid hclo
      have hs1 := Hb1.out.size
      have hs2 := hb2.size
      clear hsome hb2 hMA hE hcl hgd hclo
      go_wp2_with fail
      go_loopw [34, 10] (fun i v wr => ∃ r : Nat, i = .int .i64 r ∧ r ≤ n2 ∧ Below w2.heap.size w2 wr ∧ OwI 3 wr w2.heap.size v ((xs.take r).map fun f => (ix E f : Int)) ∧ ∀ f ∈ xs.take r, f ∈ E) (fun i _ _ => n2 - (intOf i).toNat)
      case atStart => exact ⟨0, rfl, by omega, Below.refl _ _, by simpa using OwI.nil_, by simp⟩
      case round =>
        obtain ⟨r, rfl, hr, hb, ho, hin⟩ := hrel
        have Hb := Lib.hid hb
        have Hin := Lib.hid hin
        have hlen : (List.map (fun f => (ix E f : Int)) (xs.take r)).length = r := by rw [List.length_map, List.length_take, Hm.out]; omega
        obtain ⟨A, cA, hv, _⟩ := ho.form
        rw [hlen] at hv
        subst hv
        have Ho := Lib.hid ho
        have Hlen := Lib.hid hlen
        have hsz := hb.size
        clear hb ho hin hlen
        by_cases hrl : r < n2
        · have hrE : (r : Int) < (n2 : Int) := by omega
          obtain ⟨b2, off2, rfl, hbb2, x0, x1, x2, x3, x4, x5⟩ := RdM.at_ (Rd.below (Rd.below Hy.out Hb2.out) (Hb.out.mono Hb2.out.size)) (k := r) (by rw [Hm.out]; exact hrl)
          obtain ⟨f, hf⟩ : ∃ f, f = gm xs r := ⟨_, rfl⟩
          rw [← hf] at x0 x1 x2 x3 x4 x5
          have hfx : f ∈ xs := by rw [hf]; exact gm_mem (by rw [Hm.out]; exact hrl)
          have hvf := (H4.out f hfx).1
          have Hpf := Lib.hid (H4.out f hfx).2
          have htk : xs.take (r + 1) = xs.take r ++ [f] := by rw [List.take_add_one, hf, gm_eq (by rw [Hm.out]; exact hrl), List.getElem?_eq_getElem (by rw [Hm.out]; exact hrl)]; rfl
          have Htk := Lib.hid htk
          have Hfx := Lib.hid hfx
          clear hf htk hfx
          go_wp2_with fail
          obtain ⟨wb, hwb⟩ : ∃ wb, wb = wr.alloc (.cells (mc f) 31) := ⟨_, rfl⟩
          have hwbs : wb.heap.size = wr.heap.size + 1 := by rw [hwb]; simp
          have Hbb := Lib.hid (Hb.out.alloc hsz (.cells (mc f) 31))
          have Hob := Lib.hid (Ho.out.alloc (.cells (mc f) 31))
          rw [← hwb] at Hbb Hob ⊢
          clear hwb x0 x1 x2 x3 x4 x5 Ho Hb
          refine (place_any f wb (HMA.out.below Hbb.out (Nat.le_refl _)) hEl hvf Hpf.out).mono ?_
          rintro e w3 ⟨rfl, hb3⟩
          have Hb3 := Lib.hid (Hbb.out.trans (hb3.mono Hbb.out.size))
          have Ho3 := Lib.hid (Hob.out.below hb3 (Nat.le_refl _))
          have hs3 := hb3.size
          clear hb3 Hbb Hob Hpf
          by_cases hfE : f ∈ E
          · have hpl : plOf E f - 1 = (ix E f : Int) := by rw [plOf_in hfE]; omega
            rw [hpl]
            have hxb : (ix E f : Int) < 300 := by have := ix_lt hfE; omega
            have HfE := Lib.hid hfE
            obtain ⟨x, hx⟩ : ∃ x, x = ix E f := ⟨_, rfl⟩
            rw [← hx] at hxb ⊢
            have Hxx := Lib.hid hx
            have hxn : ¬ ((x : Int) < 0) := by omega
            have hs4 : w2.heap.size ≤ w3.heap.size := by omega
            clear hfE hpl hx
            go_wp2_with (at_builtin; refine wpList_pushN rfl (.tmp 43) (.tmp 45) rfl w2.heap.size (.slice A r cA) _ rfl (Ho3.out.alloc _) r Hlen.out w3.heap.size 1 x rfl ((Blk.new _ _ _).cell 0) (by omega) (by simp; omega) (w3.heap.size + 1) (by simp) ?_; intro g' cap w4 ho' hgr hg' hlt')
            have Hb4 := Lib.hid ((Ho3.out.alloc (.cells #[I x] 3)).bel (Hb3.out.alloc hs4 _) hgr (Nat.le_refl _) (by simp; omega))
            have hn4 : List.map (fun f => (ix E f : Int)) (xs.take r) ++ [(x : Int)] = List.map (fun f => (ix E f : Int)) (xs.take (r + 1)) := by rw [Htk.out, List.map_append, Hxx.out]; rfl
            rw [hn4] at ho'
            have Ho4 := Lib.hid ho'
            clear ho' hgr hg' hlt' hn4
            go_wp2
            go_roundw
            case rel => exact ⟨r + 1, by go_num, by omega, Hb4.out, Ho4.out, fun f' hf' => by
              rw [Htk.out] at hf'
              rcases List.mem_append.1 hf' with h | h
              · exact Hin.out f' h
              · rw [List.mem_singleton.1 h]; exact HfE.out⟩
            case measure => simp [intOf]; omega
          · have hpl : plOf E f - 1 = -1 := by rw [plOf_out hfE]; rfl
            rw [hpl]
            have hmc : monC ms xs = 4 := monC_out Hc.out Hclo.out Hfx.out (by have h := hfE; rw [HE.out] at h; exact h)
            have Hbe := Lib.hid (Hb2.out.trans (Hb3.out.mono Hb2.out.size))
            clear hfE hpl
            go_wp2
            go_ret3
            exact ⟨_, _, by rw [hmc] <;> rfl, Hbe.out, fun _ => ⟨rfl, rfl⟩, fun ps' _ h => by rw [hmc] at h; cases h⟩
        · obtain rfl : r = n2 := by omega
          have hrl' : ¬ ((r : Int) < (r : Int)) := by omega
          have htk : xs.take r = xs := List.take_of_length_le (by rw [Hm.out]; exact Nat.le_refl _)
          rw [htk] at Hin Ho
          have Hmc : Hid (monC ms xs = 0) := monC_in Hc.out Hclo.out (by have h := Hin.out; rw [HE.out] at h; exact h)
          have HM3 := Lib.hid (HMA.out.below Hb.out (Nat.le_refl _))
          have Hbe := Lib.hid (Hb2.out.trans (Hb.out.mono Hb2.out.size))
          clear htk
          go_wp2
          go_ret3
          refine ⟨_, _, by rw [Hmc.out] <;> rfl, Hbe.out, fun h => absurd Hmc.out h, fun ps' h _ => ?_⟩
          rw [Hclo.out] at h
          injection h with h
          subst h
          have hE := HE.out
          subst hE
          exact ⟨g, rfl, HM3.out.from hs1, Ho.out.mono (by omega)⟩
  · go_wp2
    go_ret3
    exact ⟨_, _, by rw [monC_code hc] <;> rfl, hb1, fun _ => ⟨rfl, rfl⟩, fun ps _ h => absurd (by rw [monC_code hc] at h; exact h) hc⟩
end Go.Proofs.YtchjegojcpbfpaaGreat

namespace Go.Proofs.YtchjegojcpbfpaaGreat
open Go.RowKit
set_option maxRecDepth 100000
set_option linter.unusedSimpArgs false
def elR (ms xs : List M) : List M := if codeL ms xs = 0 then (match clo ms (gm ms 0).p with | none => [] | some ps => eltM ps) else []
def elC (ms xs : List M) : Int := if codeL ms xs = 0 then (if (clo ms (gm ms 0).p).isSome then 0 else 3) else codeL ms xs
theorem elC_code {ms xs : List M} (h : codeL ms xs ≠ 0) : elC ms xs = codeL ms xs := if_neg h
theorem elR_code {ms xs : List M} (h : codeL ms xs ≠ 0) : elR ms xs = [] := if_neg h
theorem elC_none {ms xs : List M} (h : codeL ms xs = 0) (hc : clo ms (gm ms 0).p = none) : elC ms xs = 3 := by simp [elC, h, hc]
theorem elR_none {ms xs : List M} (h : codeL ms xs = 0) (hc : clo ms (gm ms 0).p = none) : elR ms xs = [] := by simp [elR, h, hc]
theorem elC_some {ms xs : List M} {ps : Met} (h : codeL ms xs = 0) (hc : clo ms (gm ms 0).p = some ps) : elC ms xs = 0 := by simp [elC, h, hc]
theorem elR_some {ms xs : List M} {ps : Met} (h : codeL ms xs = 0) (hc : clo ms (gm ms 0).p = some ps) : elR ms xs = eltM ps := by simp [elR, h, hc]
structure El (ms xs E : List M) (ps : Met) : Prop where
  code : codeL ms xs = 0
  clo : clo ms (gm ms 0).p = some ps
  eq : E = eltM ps
  r : elR ms xs = E
  p1 : 1 ≤ (gm ms 0).p
  p5 : (gm ms 0).p ≤ 5
  G : Pts (gm ms 0).p ms
  X : Pts (gm ms 0).p xs
  n1 : 1 ≤ ms.length
  n6 : ms.length ≤ 6
  mnd : Mnd (gm ms 0).p E
  mem : ∀ x, x ∈ E ↔ Mon ms (gm ms 0).p x
  len : E.length ≤ 300
  pos : 0 < E.length
theorem elC_el {ms xs : List M} (h : elC ms xs = 0) : ∃ E ps, El ms xs E ps := by
  by_cases hc : codeL ms xs = 0
  · obtain ⟨q1, q2, q3, q4, q5, q6⟩ := codeL_pts' hc
    cases hk : clo ms (gm ms 0).p with
    | none => rw [elC_none hc hk] at h; cases h
    | some ps =>
      have hm := clo_mnd q1 q2 q3 hk
      exact ⟨_, ps, hc, hk, rfl, elR_some hc hk, q1, q2, q3, q4, q5, q6, hm, fun x => by rw [sortM_mem, clo_mem hk], by rw [sortM_length (clo_good hk).1.nd, List.length_map]; exact (clo_good hk).1.len, hm.pos⟩
  · rw [elC_code hc] at h; exact absurd h hc
theorem elC_mon {ms xs : List M} (h : elC ms xs ≠ 0) : monC ms xs = elC ms xs := by
  by_cases hc : codeL ms xs = 0
  · cases hk : clo ms (gm ms 0).p with
    | none => rw [monC_none hc hk, elC_none hc hk]
    | some ps => exact absurd (elC_some hc hk) h
  · rw [monC_code hc, elC_code hc]
theorem El.mon {ms xs E : List M} {ps : Met} (h : El ms xs E ps) : monC ms xs = if xs.all (fun f => decide (f ∈ E)) then 0 else 4 := by
  unfold monC
  rw [if_pos h.code, h.clo, h.eq]
theorem El.mon0 {ms xs E : List M} {ps : Met} (h : El ms xs E ps) (hx : ∀ f ∈ xs, f ∈ E) : monC ms xs = 0 := by
  rw [h.mon, if_pos (by rw [List.all_eq_true]; exact fun f hf => decide_eq_true (hx f hf))]
theorem elR_bad {ms xs : List M} (h : elC ms xs ≠ 0) : elR ms xs = [] := by
  by_cases hc : codeL ms xs = 0
  · cases hk : clo ms (gm ms 0).p with
    | none => exact elR_none hc hk
    | some ps => exact absurd (elC_some hc hk) h
  · exact elR_code hc
def RetS (res : List M) (code : Int) (w : World) (e : Ending) (w' : World) : Prop := ∃ A c, e = .returned (.tuple #[.slice A res.length c, I code]) ∧ RdM w' w'.heap.size A res ∧ Below w.heap.size w w'
theorem RetS.mk {res : List M} {code : Int} {w w' : World} {e : Ending} (A : Option Addr) (c : Nat) (h : e = .returned (.tuple #[.slice A res.length c, I code])) (hr : RdM w' w'.heap.size A res) (hb : Below w.heap.size w w') : RetS res code w e w' := ⟨A, c, h, hr, hb⟩
def RetM (res : List M) (code : Int) (w : World) (e : Ending) (w' : World) : Prop := ∃ v, e = .returned (.tuple #[v, I code]) ∧ OwM 31 w' w.heap.size v res ∧ Below w.heap.size w w'
theorem RetM.mk {res : List M} {code : Int} {w w' : World} {e : Ending} (v : Value) (h : e = .returned (.tuple #[v, I code])) (hr : OwM 31 w' w.heap.size v res) (hb : Below w.heap.size w w') : RetM res code w e w' := ⟨v, h, hr, hb⟩
theorem RetM.toS {res : List M} {code : Int} {w w' : World} {e : Ending} (h : RetM res code w e w') : RetS res code w e w' := by
  obtain ⟨v, rfl, ho, hb⟩ := h
  obtain ⟨A, c, rfl, hr⟩ := ho.form
  exact ⟨A, c, rfl, hr, hb⟩
def RetSI (res : List Int) (code : Int) (w : World) (e : Ending) (w' : World) : Prop := ∃ A c, e = .returned (.tuple #[.slice A res.length c, I code]) ∧ RdI w' w'.heap.size A res ∧ Below w.heap.size w w'
theorem RetSI.mk {res : List Int} {code : Int} {w w' : World} {e : Ending} (A : Option Addr) (c : Nat) (h : e = .returned (.tuple #[.slice A res.length c, I code])) (hr : RdI w' w'.heap.size A res) (hb : Below w.heap.size w w') : RetSI res code w e w' := ⟨A, c, h, hr, hb⟩
def RetI (res : List Int) (code : Int) (w : World) (e : Ending) (w' : World) : Prop := ∃ v, e = .returned (.tuple #[v, I code]) ∧ OwI 2 w' w.heap.size v res ∧ Below w.heap.size w w'
theorem RetI.mk {res : List Int} {code : Int} {w w' : World} {e : Ending} (v : Value) (h : e = .returned (.tuple #[v, I code])) (hr : OwI 2 w' w.heap.size v res) (hb : Below w.heap.size w w') : RetI res code w e w' := ⟨v, h, hr, hb⟩
theorem RetI.toS {res : List Int} {code : Int} {w w' : World} {e : Ending} (h : RetI res code w e w') : RetSI res code w e w' := by
  obtain ⟨v, rfl, ho, hb⟩ := h
  obtain ⟨A, c, rfl, hr⟩ := ho.form
  exact ⟨A, c, rfl, hr, hb⟩
theorem l02Elements_any (A1 A2 : Option Addr) (n1 c1 n2 c2 : Nat) (ms xs : List M) (w : World) (hx : RdM w w.heap.size A1 ms) (hy : RdM w w.heap.size A2 xs) (hn : ms.length = n1) (hm : xs.length = n2)
    (hb : n1 < 1073741824) (hb2 : n2 < 1073741824) :
    Calls Tryz.prog 52 #[.slice A1 n1 c1, .slice A2 n2 c2] w (RetS (elR ms xs) (elC ms xs) w) := by
  have Hx := Lib.hid hx
  have Hy := Lib.hid hy
  have Hn := Lib.hid hn
  have Hm := Lib.hid hm
  clear hx hy hn hm
  go_enter Tryz.func52, Tryz.ntmps52
  go_wp2_with fail
  refine (l02Given_any A1 A2 n1 c1 n2 c2 ms xs _ Hx.out Hy.out Hn.out Hm.out hb hb2).mono ?_
  rintro e w1 ⟨rfl, hb1⟩
  by_cases hc : codeL ms xs = 0
  · obtain ⟨q1, q2, q3, q4, q5, q6⟩ := codeL_pts' hc
    have Hc := Lib.hid hc
    have H3 := Lib.hid q3
    have Hb1 := Lib.hid hb1
    rw [hc]
    have hx1 := Rd.below Hx.out hb1
    obtain ⟨b, off, rfl, hbb, x0, x1, x2, x3, x4, x5⟩ := RdM.at_ hx1 (k := 0) (by omega)
    rw [Nat.zero_mul, Nat.add_zero] at x0
    have hl1 : 0 < n1 := by have := Hn.out; omega
    have hz1 := Hb1.out.size
    clear hc q3 q4 hb1 hx1 x1 x2 x3 x4 x5
    go_wp2_with fail
    refine (l02Closed_any (some ⟨b, off, none⟩) n1 c1 ms (gm ms 0).p w1 (Rd.more (Rd.below Hx.out Hb1.out) Hb1.out.size) Hn.out (by omega) q1 q2 H3.out).mono ?_
    rintro e w2 ⟨v1, v2, rfl, hb2', hsome⟩
    have Hb2 := Lib.hid (Hb1.out.trans (hb2'.mono Hb1.out.size))
    have hz2 := hb2'.size
    clear x0
    cases hclo : clo ms (gm ms 0).p with
    | none =>
      have Hr := Lib.hid (elR_none Hc.out hclo)
      have Hmc := Lib.hid (elC_none Hc.out hclo)
      rw [show (none : Option Met).isSome = false from rfl]
      clear hsome hb2' hclo
      go_wp2
      go_ret2
      exact .mk none 0 (by rw [Hmc.out, Hr.out] <;> rfl) (by rw [Hr.out]; exact Rd.nil_) Hb2.out
    | some ps =>
      have Hr := Lib.hid (elR_some Hc.out hclo)
      have Hmc := Lib.hid (elC_some Hc.out hclo)
      obtain ⟨hO, _⟩ := hsome ps hclo
      have hgd := (clo_good hclo).1
      have hlen := hgd.len
      have HPv : Hid (∀ x ∈ ps.map (·.1), Valid x) := fun x hx => by
        obtain ⟨q, hq, rfl⟩ := List.mem_map.1 hx
        exact ((hgd.mon q hq).ok q1 q2 H3.out).1
      have Hnd := Lib.hid hgd.nd
      obtain ⟨P, hP⟩ : ∃ P, P = ps.map (·.1) := ⟨_, rfl⟩
      have HP := Lib.hid hP
      obtain ⟨N, hN⟩ : ∃ N, N = ps.length := ⟨_, rfl⟩
      have HN : Hid (P.length = N) := by show _ = _; rw [hP, hN, List.length_map]
      rw [← hP] at hO HPv Hnd
      rw [← hN] at hlen
      obtain ⟨A3, c3, e3, hr3⟩ := hO.form
      rw [HN.out] at e3
      subst e3
      have HO := Lib.hid hr3
      rw [show (some ps : Option Met).isSome = true from rfl]
      clear hsome hb2' hclo hO hr3 hgd hP hN
      go_wp2_with fail
      go_loopw [10, 11] (fun v i wr => ∃ (r : Nat) (A : Addr) (c : Nat), i = .int .i64 r ∧ r ≤ N ∧ v = .slice (some A) (sortM (P.take r)).length c ∧ (sortM (P.take r)).length ≤ c ∧ RdM wr wr.heap.size (some A) (sortM (P.take r)) ∧ Below w2.heap.size w2 wr) (fun _ i _ => N - (intOf i).toNat)
      case atStart =>
        refine ⟨0, ⟨w2.heap.size, 0, none⟩, 0, rfl, by omega, rfl, Nat.le_refl _, Rd.nil_, (Below.refl _ _).alloc (Nat.le_refl _) _⟩
      case round =>
        obtain ⟨r, A, c, rfl, hr, rfl, hc, hR, hb⟩ := hrel
        have HR := Lib.hid hR
        have Hb := Lib.hid hb
        have Hcc := Lib.hid hc
        have hz := hb.size
        have hsl : (sortM (P.take r)).length = r := by
          rw [sortM_length (Hnd.out.sublist (List.take_sublist _ _)), List.length_take, HN.out]; omega
        have Hsl := Lib.hid hsl
        rw [hsl]
        clear hR hb hc hsl
        by_cases hrl : r < N
        · have hrE : (r : Int) < (N : Int) := by omega
          obtain ⟨b2, off2, rfl, hbb2, h6⟩ := RdM.at_ (Rd.below HO.out Hb.out) (k := r) (by rw [HN.out]; exact hrl)
          obtain ⟨f, hf⟩ : ∃ f, f = gm P r := ⟨_, rfl⟩
          rw [← hf] at h6
          have hvf : Valid f := HPv.out f (by rw [hf]; exact gm_mem (by rw [HN.out]; exact hrl))
          have htk : P.take (r + 1) = P.take r ++ [f] := by rw [List.take_add_one, hf, gm_eq (by rw [HN.out]; exact hrl), List.getElem?_eq_getElem (by rw [HN.out]; exact hrl)]; rfl
          have HEv : Hid (∀ x ∈ sortM (P.take r), Valid x) := fun x hx => HPv.out x (List.mem_of_mem_take (sortM_mem.1 hx))
          have hins : insM f (sortM (P.take r)) = sortM (P.take (r + 1)) := by rw [htk, sortM_snoc]
          have hsl2 : (sortM (P.take (r + 1))).length = r + 1 := by
            rw [sortM_length (Hnd.out.sublist (List.take_sublist _ _)), List.length_take, HN.out]; omega
          have Hins := Lib.hid hins
          have Hsl2 := Lib.hid hsl2
          obtain ⟨x0, x1, x2, x3, x4, x5⟩ := h6
          clear hf htk hins hsl2
          go_wp2_with fail
          refine (l01Put_any A r c (sortM (P.take r)) f _ HR.out Hsl.out (by have := Hcc.out; have := Hsl.out; omega) (by omega) (sortM_asc _) HEv.out hvf).mono ?_
          rintro e w4 ⟨A', c', rfl, hc', hr', _, hb'⟩
          rw [Hins.out] at hc' hr' ⊢
          have Hr' := Lib.hid hr'
          have Hc' := Lib.hid hc'
          have Hb' := Lib.hid (Hb.out.trans (hb'.mono hz))
          clear hc' hr' hb' x0 x1 x2 x3 x4 x5
          go_wp2
          go_roundw
          case rel => exact ⟨r + 1, A', c', by go_num, by omega, rfl, Hc'.out, Hr'.out, Hb'.out⟩
          case measure => simp [intOf]; omega
        · obtain rfl : r = N := by omega
          have hrl' : ¬ ((r : Int) < (r : Int)) := by omega
          have htk : P.take r = P := List.take_of_length_le (by rw [HN.out]; exact Nat.le_refl _)
          rw [htk] at HR Hsl
          have HE : Hid (elR ms xs = sortM P) := by show _ = _; rw [Hr.out, HP.out]
          have Hbe := Lib.hid (Hb2.out.trans (Hb.out.mono Hb2.out.size))
          clear htk
          go_wp2
          go_ret2
          exact .mk (some A) c (by rw [Hmc.out, HE.out, Hsl.out] <;> rfl) (by rw [HE.out]; exact HR.out) Hbe.out
  · have Hr := Lib.hid (elR_code hc)
    have Hmc := Lib.hid (elC_code hc)
    go_wp2
    go_ret2
    exact .mk none 0 (by rw [Hmc.out, Hr.out] <;> rfl) (by rw [Hr.out]; exact Rd.nil_) hb1
set_option maxRecDepth 100000
set_option linter.unusedSimpArgs false
def M.upd (m : M) (j : Nat) (z : Int) : M :=
  match j with
  | 0 => { m with p := z }
  | 1 => { m with t0 := z }
  | 2 => { m with t1 := z }
  | 3 => { m with t2 := z }
  | 4 => { m with t3 := z }
  | 5 => { m with t4 := z }
  | _ => m
theorem mcs_upd (j : Nat) (hj : j < 6) (z : Int) : ∀ {ms : List M} {k : Nat}, k < ms.length → mcs (ms.set k ((gm ms k).upd j z)) = (mcs ms).set (k * 6 + j) (I z)
  | [], _, h => by simp at h
  | m0 :: ms, 0, _ => by
    match j, hj with
    | 0, _ => rfl
    | 1, _ => rfl
    | 2, _ => rfl
    | 3, _ => rfl
    | 4, _ => rfl
    | 5, _ => rfl
  | m0 :: ms, k + 1, h => by
    have ih := mcs_upd j hj z (ms := ms) (k := k) (by simpa using h)
    rw [gm_cons_succ, List.set_cons_succ, mcs_cons, ih, mcs_cons]
    have e : (k + 1) * 6 + j = k * 6 + j + 6 := by omega
    rw [e]
    rfl
theorem OwM.put {e : TypeId} {w : World} {B g n c : Nat} {ms : List M} (h : OwM e w B (.slice (some ⟨g, 0, none⟩) n c) ms) {k j : Nat} (hk : k < ms.length) (hj : j < 6) (z : Int) : OwM e (w.setCell ⟨g, k * 6 + j, none⟩ (I z)) B (.slice (some ⟨g, 0, none⟩) n c) (ms.set k ((gm ms k).upd j z)) := by
  rcases h.2 with ⟨he, h0⟩ | ⟨g', cap, cur, he, hg, hh, hn, hm, hs, ht⟩
  · omega
  · injection he with e1 e2 e3
    injection e1 with e1
    injection e1 with e1 _
    subst e1 e3
    refine ⟨by rw [mcs_length], .inr ⟨g, c, cur.setIfInBounds (k * 6 + j) (I z), by rw [e2]; simp, hg, ?_, by simpa using hn, hm, by simpa using hs, ?_⟩⟩
    · simp [World.setCell, Array.getElem?_modify, hh]
    · rw [Array.toList_setIfInBounds, List.take_set, List.length_set, ht, mcs_upd j hj z hk]
set_option maxRecDepth 100000
/-! ### regions -/
section
variable {ops : Array Oper}
end
/-! ### a region that copies the list and calls -/
structure GC where
  v : Value
  r : Value
structure SC (w1 : World) (ms : List M) (R : Value → World → Prop) (b1 b4 : Bool) (c : GC) (w : World) : Prop where
  bel : Below w1.heap.size w1 w
  a : b1 = true → b4 = false → OwM 31 w w1.heap.size c.v ms
  r : b4 = true → R c.r w
section
variable {w1 w w' : World} {ms : List M} {R : Value → World → Prop} {b1 b4 : Bool} {c : GC}
theorem SC.start (hb : Below w1.heap.size w1 w) : SC w1 ms R false false c w := ⟨hb, fun h => (by cases h), fun h => (by cases h)⟩
theorem SC.below (hR : ∀ r w w', R r w → Below w.heap.size w w' → R r w') (h : SC w1 ms R b1 b4 c w) (hb : Below w.heap.size w w') : SC w1 ms R b1 b4 c w' :=
  ⟨h.bel.trans (hb.mono h.bel.size), fun e1 e2 => (h.a e1 e2).below hb (Nat.le_refl _), fun e => hR _ _ _ (h.r e) hb⟩
theorem SC.fin (h : SC w1 ms R true true c w) : R c.r w ∧ Below w1.heap.size w1 w := ⟨h.r rfl, h.bel⟩
end
def RR6 (res : List M) (r : Value) (w : World) : Prop := ∃ A c, r = .slice A res.length c ∧ RdM w w.heap.size A res
def RR1 (res : List Int) (r : Value) (w : World) : Prop := ∃ A c, r = .slice A res.length c ∧ RdI w w.heap.size A res
theorem RR6.below {res : List M} (r : Value) (w w' : World) (h : RR6 res r w) (hb : Below w.heap.size w w') : RR6 res r w' := by
  obtain ⟨A, c, e, hr⟩ := h
  exact ⟨A, c, e, Rd.more (Rd.below hr hb) hb.size⟩
theorem RR1.below {res : List Int} (r : Value) (w w' : World) (h : RR1 res r w) (hb : Below w.heap.size w w') : RR1 res r w' := by
  obtain ⟨A, c, e, hr⟩ := h
  exact ⟨A, c, e, Rd.more (Rd.below hr hb) hb.size⟩
theorem RetS.out {res : List M} {code : Int} {w w' : World} {e : Ending} (h : RetS res code w e w') : ∃ r, e = .returned (.tuple #[r, I code]) ∧ RR6 res r w' ∧ Below w.heap.size w w' := by
  obtain ⟨A, c, rfl, hr, hb⟩ := h
  exact ⟨_, rfl, ⟨A, c, rfl, hr⟩, hb⟩
theorem RetSI.out {res : List Int} {code : Int} {w w' : World} {e : Ending} (h : RetSI res code w e w') : ∃ r, e = .returned (.tuple #[r, I code]) ∧ RR1 res r w' ∧ Below w.heap.size w w' := by
  obtain ⟨A, c, rfl, hr, hb⟩ := h
  exact ⟨_, rfl, ⟨A, c, rfl, hr⟩, hb⟩
theorem OwM.rdA {e : TypeId} {w : World} {B n c : Nat} {A : Option Addr} {ms : List M} (h : OwM e w B (.slice A n c) ms) : RdM w w.heap.size A ms := by
  obtain ⟨A', c', e, hr⟩ := h.form
  injection e with e1 _ _
  subst e1
  exact hr
theorem OwI.rdA {e : TypeId} {w : World} {B n c : Nat} {A : Option Addr} {zs : List Int} (h : OwI e w B (.slice A n c) zs) : RdI w w.heap.size A zs := by
  obtain ⟨A', c', e, hr⟩ := h.form
  injection e with e1 _ _
  subst e1
  exact hr
/-! ### the state of a statement's walk -/
theorem ownsRow_keep {w w' : World} {B : Nat} {e : TypeId} {k : Nat} {v : Value} {n : Nat} {cs : List Value} (h : w.ownsRow B e k v n cs) (hk : ∀ g, v.ownBlock = some g → w'.heap[g]? = w.heap[g]?) : w'.ownsRow B e k v n cs := by
  refine ⟨h.1, ?_⟩
  rcases h.2 with hn | ⟨g, cap, cur, rfl, hg, hh, rest⟩
  · exact .inl hn
  · exact .inr ⟨g, cap, cur, rfl, hg, by rw [hk g rfl]; exact hh, rest⟩
structure LS (w : World) (A : Option Addr) (ms : List M) (bxs : List (Nat × M)) (k0 B0 : Nat) (A0 : Option Addr) (n0 : Nat) (cs0 : List Value) (bX : Nat) (vX : Value) (xs : List M) (bG : Nat) (eG : TypeId) (kG : Nat) (vG : Value) (nG : Nat) (csG : List Value) (wc : World) : Prop where
  inp : RdM w w.heap.size A ms
  bel : Below w.heap.size w wc
  box : ∀ p ∈ bxs, Six wc p.1 p.2 ∧ w.heap.size ≤ p.1 ∧ p.1 < B0
  r0 : Rd k0 wc B0 A0 n0 cs0
  ox : OwM 31 wc bX vX xs
  og : wc.ownsRow bG eG kG vG nG csG
  h0 : w.heap.size ≤ B0
  h1 : B0 ≤ bX
  h2 : ∀ g, vX.ownBlock = some g → g < bG
  h3 : bX ≤ bG
  h4 : bG ≤ wc.heap.size
section
variable {w wc w' : World} {A : Option Addr} {ms : List M} {bxs : List (Nat × M)} {k0 B0 : Nat} {A0 : Option Addr} {n0 : Nat} {cs0 : List Value} {bX : Nat} {vX : Value} {xs : List M} {bG : Nat} {eG : TypeId} {kG : Nat} {vG : Value} {nG : Nat} {csG : List Value}
theorem LS.start (hi : RdM w w.heap.size A ms) (hb : Below w.heap.size w wc) (hx : ∀ p ∈ bxs, Six wc p.1 p.2 ∧ w.heap.size ≤ p.1) : LS w A ms bxs 6 wc.heap.size none 0 [] wc.heap.size (.slice none 0 0) [] wc.heap.size 31 6 (.slice none 0 0) 0 [] wc where
  inp := hi
  bel := hb
  box := fun p hp => ⟨(hx p hp).1, (hx p hp).2, (hx p hp).1.lt⟩
  r0 := Rd.nil_
  ox := OwM.nil_
  og := World.ownsRow_nil wc wc.heap.size 31 6
  h0 := hb.size
  h1 := Nat.le_refl _
  h2 := fun g hg => by cases hg
  h3 := Nat.le_refl _
  h4 := Nat.le_refl _
theorem LS.below (h : LS w A ms bxs k0 B0 A0 n0 cs0 bX vX xs bG eG kG vG nG csG wc) (hb : Below wc.heap.size wc w') : LS w A ms bxs k0 B0 A0 n0 cs0 bX vX xs bG eG kG vG nG csG w' where
  inp := h.inp
  bel := h.bel.trans (hb.mono h.bel.size)
  box := fun p hp => ⟨(h.box p hp).1.below hb (h.box p hp).1.lt, (h.box p hp).2⟩
  r0 := h.r0.below' hb (Nat.le_trans h.h1 (Nat.le_trans h.h3 h.h4))
  ox := h.ox.below hb (Nat.le_refl _)
  og := ownsRow_keep h.og fun g hg => hb.block g (World.ownsRow.lt h.og g hg).2
  h0 := h.h0
  h1 := h.h1
  h2 := h.h2
  h3 := h.h3
  h4 := Nat.le_trans h.h4 hb.size
theorem LS.list (h : LS w A ms bxs k0 B0 A0 n0 cs0 bX vX xs bG eG kG vG nG csG wc) : RdM wc wc.heap.size A ms := Rd.more (Rd.below h.inp h.bel) h.bel.size
theorem LS.res (h : LS w A ms bxs k0 B0 A0 n0 cs0 bX vX xs bG eG kG vG nG csG wc) : Rd k0 wc wc.heap.size A0 n0 cs0 := Rd.more h.r0 (Nat.le_trans h.h1 (Nat.le_trans h.h3 h.h4))
end
set_option maxRecDepth 100000
set_option linter.unusedSimpArgs false
theorem codeL_cases (ms xs : List M) : codeL ms xs = 0 ∨ codeL ms xs = 1 ∨ codeL ms xs = 2 := by
  unfold codeL
  split
  · split
    · exact .inl rfl
    · exact .inr (.inr rfl)
  · exact .inr (.inl rfl)
theorem elC_cases {ms xs : List M} : elC ms xs = 0 ∨ elC ms xs = 1 ∨ elC ms xs = 2 ∨ elC ms xs = 3 := by
  unfold elC
  split
  · split
    · exact .inl rfl
    · exact .inr (.inr (.inr rfl))
  · have := codeL_cases ms xs; omega
theorem elC_p {ms xs : List M} (h : elC ms xs ≠ 0) : 0 < elC ms xs ∧ elC ms xs < 4 := by
  have := elC_cases (ms := ms) (xs := xs); omega
theorem monC_nil (ms : List M) : monC ms [] = elC ms [] := by
  by_cases h : elC ms [] = 0
  · obtain ⟨E, ps, hE⟩ := elC_el h
    rw [h]
    exact hE.mon0 (by simp)
  · exact elC_mon h
theorem rd_one {w : World} {f : M} {b : Nat} (h : Six w b f) : RdM w w.heap.size (some ⟨b, 0, none⟩) [f] := by
  refine ⟨by simp [mcs], fun _ => ⟨b, 0, rfl, h.lt, fun j u hj => ?_⟩⟩
  obtain ⟨c0, c1, c2, c3, c4, c5⟩ := h
  rw [Nat.zero_add]
  simp only [mcs, List.flatMap_cons, List.flatMap_nil, List.append_nil] at hj
  match j, hj with
  | 0, hj => simp at hj; subst hj; exact c0
  | 1, hj => simp at hj; subst hj; exact c1
  | 2, hj => simp at hj; subst hj; exact c2
  | 3, hj => simp at hj; subst hj; exact c3
  | 4, hj => simp at hj; subst hj; exact c4
  | 5, hj => simp at hj; subst hj; exact c5
  | n + 6, hj => simp at hj
theorem SpecElementsOf_any (A : Option Addr) (n c : Nat) (ms : List M) (w : World) (hx : RdM w w.heap.size A ms) (hn : ms.length = n) (hb : n < 1073741824) :
    Calls Tryz.prog 36 #[.slice A n c] w (RetS (elR ms []) (elC ms []) w) := by
  have Hx := Lib.hid hx
  have Hn := Lib.hid hn
  clear hx hn
  go_enter Tryz.func36, Tryz.ntmps36
  go_wp2_with fail
  refine (l02Elements_any A none n c 0 0 ms [] _ Hx.out Rd.nil_ Hn.out rfl hb (by decide)).mono ?_
  rintro e w1 ⟨A', c', rfl, hr, hb1⟩
  have Hr := Lib.hid hr
  clear hr
  go_wp2
  go_ret2
  exact .mk A' c' rfl Hr.out hb1
theorem ImplElementsOf_any (A : Option Addr) (n c : Nat) (ms : List M) (w : World) (hx : RdM w w.heap.size A ms) (hn : ms.length = n) (hA : A = none → n = 0 ∧ c = 0) (hb : n < 536870912) :
    Calls Tryz.prog 35 #[.slice A n c] w (RetM (elR ms []) (elC ms []) w) := by
  have Hx := Lib.hid hx
  have Hn := Lib.hid hn
  have HA := Lib.hid hA
  have hcc := monC_nil ms
  clear hx hn hA
  by_cases hc : elC ms [] = 0
  · obtain ⟨E, ps, hE⟩ := elC_el hc
    have HE := Lib.hid hE
    rw [hc] at hcc
    have Hc := Lib.hid hc
    have Hcc := Lib.hid hcc
    clear hE hc hcc
    go_enter Tryz.func35, Tryz.ntmps35
    go_wp2_with fail
    refine (monoidOf_any A none n c 0 0 ms [] _ Hx.out Rd.nil_ Hn.out rfl HA.out (fun _ => ⟨rfl, rfl⟩) (by omega)).mono ?_
    rintro e w1 ⟨r, v, rfl, hb1, hr0, hs⟩
    obtain ⟨g, rfl, hM, _⟩ := hs ps HE.out.clo Hcc.out
    obtain ⟨_, ev, wv, pl, vs, hMo, _, hO, _⟩ := hM
    rw [Hcc.out]
    have c0 := hMo.c0
    have HO := Lib.hid hO
    have Hb := Lib.hid hb1
    obtain ⟨A', c', e', _⟩ := hO.form
    subst e'
    clear hMo hO hs hb1 hr0
    go_wp2
    go_ret2
    exact .mk _ (by rw [Hc.out] <;> rfl) (by rw [HE.out.r, HE.out.eq]; exact HO.out) Hb.out
  · have hR := elR_bad hc
    have HR := Lib.hid hR
    have Hcc := Lib.hid hcc
    obtain ⟨p0, p4⟩ := elC_p hc
    have hne : (elC ms [] != 0) = true := by simpa using hc
    clear hc hcc hR
    go_enter Tryz.func35, Tryz.ntmps35
    go_wp2_with fail
    refine (monoidOf_any A none n c 0 0 ms [] _ Hx.out Rd.nil_ Hn.out rfl HA.out (fun _ => ⟨rfl, rfl⟩) (by omega)).mono ?_
    rintro e w1 ⟨r, v, rfl, hb1, hr0, hs⟩
    rw [Hcc.out]
    have Hb := Lib.hid hb1
    clear hb1 hs hr0
    go_wp2
    go_ret2
    exact .mk _ rfl (by rw [HR.out]; exact OwM.nil_) Hb.out
theorem ImplSizeOf_any (A : Option Addr) (n c : Nat) (ms : List M) (w : World) (hx : RdM w w.heap.size A ms) (hn : ms.length = n) (hA : A = none → n = 0 ∧ c = 0) (hb : n < 536870912) :
    Calls Tryz.prog 29 #[.slice A n c] w fun e w' => e = .returned (.tuple #[I (elR ms []).length, I (elC ms [])]) ∧ Below w.heap.size w w' := by
  have Hx := Lib.hid hx
  have Hn := Lib.hid hn
  have HA := Lib.hid hA
  clear hx hn hA
  go_enter Tryz.func29, Tryz.ntmps29
  go_wp2_with fail
  refine (ImplElementsOf_any A n c ms _ Hx.out Hn.out HA.out hb).mono ?_
  rintro e w1 ⟨v, rfl, ho, hb1⟩
  obtain ⟨A', c', rfl, _⟩ := ho.form
  clear ho
  go_wp2
  go_ret2
  exact ⟨rfl, hb1⟩
/-! ### IsElement -/
def isElB (ms : List M) (f : M) : Bool := decide (elC ms [f] = 0) && decide (f ∈ elR ms [f])
theorem SpecIsElement_any (A : Option Addr) (n c : Nat) (ms : List M) (f : M) (w : World) (hx : RdM w w.heap.size A ms) (hn : ms.length = n) (hb : n < 1073741824) :
    Calls Tryz.prog 28 #[.slice A n c, .agg (mc f)] w fun e w' => e = .returned (.tuple #[.bool (isElB ms f), I (elC ms [f])]) ∧ Below w.heap.size w w' := by
  obtain ⟨wb, hwb⟩ : ∃ wb, wb = (w.alloc (.cells (mc f) 31)).alloc (.cells (mc f) 31) := ⟨_, rfl⟩
  have hbb : Below w.heap.size w wb := by rw [hwb]; exact ((Below.refl _ _).alloc (Nat.le_refl _) _).alloc (by simp) _
  have h6 : Six wb w.heap.size f := by rw [hwb]; exact Six.alloc (Blk.six (Blk.new w _ _)) _
  have h7 : RdM wb wb.heap.size (some ⟨w.heap.size + 1, 0, none⟩) [f] := by rw [hwb]; exact rd_one (Blk.six (Blk.new' _ _ _ (by simp)))
  have Hx := Lib.hid (Rd.more (Rd.below hx hbb) hbb.size)
  have Hn := Lib.hid hn
  have H6 := Lib.hid h6
  have H7 := Lib.hid h7
  have Hbb := Lib.hid hbb
  have Hwb := Lib.hid hwb
  have hlt := h6.lt
  clear hx hn h6 h7 hbb hwb
  by_cases hc : elC ms [f] = 0
  · obtain ⟨E, ps, hE⟩ := elC_el hc
    have hvf := (hE.X f (by simp)).1
    have HEv : Hid (∀ g ∈ E, Valid g) := fun g hg => (hE.mnd.ok g hg).1
    have hlen := hE.len
    have hB : isElB ms f = decide (f ∈ E) := by unfold isElB; rw [decide_eq_true hc, Bool.true_and, hE.r]
    have HB := Lib.hid hB
    have HE := Lib.hid hE
    have Hc := Lib.hid hc
    clear hE hc hB
    go_enter Tryz.func28, Tryz.ntmps28
    go_wp2_with fail
    rw [← Hwb.out]
    refine (l02Elements_any A (some ⟨w.heap.size + 1, 0, none⟩) n c 1 1 ms [f] wb Hx.out H7.out Hn.out rfl hb (by decide)).mono ?_
    rintro e w1 ⟨A', c', rfl, hr, hb1⟩
    rw [HE.out.r] at hr ⊢
    rw [Hc.out]
    have Hr := Lib.hid hr
    have Hb1 := Lib.hid hb1
    obtain ⟨d0, d1, d2, d3, d4, d5⟩ := H6.out.below hb1 hlt
    clear hr hb1
    go_wp2_with fail
    refine (l02Find_any A' E.length c' E f _ Hr.out rfl (by omega) HE.out.mnd.asc HEv.out hvf).mono ?_
    rintro e w2 ⟨rfl, hb2⟩
    have Hb2 := Lib.hid (Hbb.out.trans ((Hb1.out.trans (hb2.mono Hb1.out.size)).mono Hbb.out.size))
    clear hb2 d0 d1 d2 d3 d4 d5
    by_cases hin : f ∈ E
    · obtain ⟨x, hx⟩ : ∃ x : Nat, plOf E f - 1 = (x : Int) := ⟨ix E f, by rw [plOf_in hin]; omega⟩
      have hx0 : (0 : Int) ≤ (x : Int) := by omega
      rw [hx]
      have Hin := Lib.hid hin
      clear hin hx
      go_wp2
      go_ret2
      exact ⟨by rw [HB.out, Hc.out, decide_eq_true Hin.out] <;> rfl, Hb2.out⟩
    · have hx : plOf E f - 1 = -1 := by rw [plOf_out hin]; rfl
      rw [hx]
      have Hin := Lib.hid hin
      clear hin hx
      go_wp2
      go_ret2
      exact ⟨by rw [HB.out, Hc.out, decide_eq_false Hin.out] <;> rfl, Hb2.out⟩
  · have hB : isElB ms f = false := by unfold isElB; rw [decide_eq_false hc, Bool.false_and]
    have HB := Lib.hid hB
    have hne : (elC ms [f] != 0) = true := by simpa using hc
    clear hc hB
    go_enter Tryz.func28, Tryz.ntmps28
    go_wp2_with fail
    rw [← Hwb.out]
    refine (l02Elements_any A (some ⟨w.heap.size + 1, 0, none⟩) n c 1 1 ms [f] wb Hx.out H7.out Hn.out rfl hb (by decide)).mono ?_
    rintro e w1 ⟨A', c', rfl, hr, hb1⟩
    have Hb2 := Lib.hid (Hbb.out.trans (hb1.mono Hbb.out.size))
    clear hr hb1
    go_wp2
    go_ret2
    exact ⟨by rw [HB.out] <;> rfl, Hb2.out⟩
theorem ImplIsElement_any (A : Option Addr) (n c : Nat) (ms : List M) (f : M) (w : World) (hx : RdM w w.heap.size A ms) (hn : ms.length = n) (hA : A = none → n = 0 ∧ c = 0) (hb : n < 536870912) :
    Calls Tryz.prog 27 #[.slice A n c, .agg (mc f)] w fun e w' => e = .returned (.tuple #[.bool (isElB ms f), I (elC ms [f])]) ∧ Below w.heap.size w w' := by
  obtain ⟨wb, hwb⟩ : ∃ wb, wb = (w.alloc (.cells (mc f) 31)).alloc (.cells (mc f) 31) := ⟨_, rfl⟩
  have hbb : Below w.heap.size w wb := by rw [hwb]; exact ((Below.refl _ _).alloc (Nat.le_refl _) _).alloc (by simp) _
  have h7 : RdM wb wb.heap.size (some ⟨w.heap.size + 1, 0, none⟩) [f] := by rw [hwb]; exact rd_one (Blk.six (Blk.new' _ _ _ (by simp)))
  have Hx := Lib.hid (Rd.more (Rd.below hx hbb) hbb.size)
  have Hn := Lib.hid hn
  have HA := Lib.hid hA
  have H7 := Lib.hid h7
  have Hbb := Lib.hid hbb
  have Hwb := Lib.hid hwb
  clear hx hn h7 hbb hwb hA
  have key : ∃ x : Int, monC ms [f] = x ∧ ((x = 4 ∧ isElB ms f = false ∧ elC ms [f] = 0) ∨ (x = 0 ∧ isElB ms f = true ∧ elC ms [f] = 0) ∨ (0 < x ∧ x < 4 ∧ isElB ms f = false ∧ elC ms [f] = x)) := by
    refine ⟨_, rfl, ?_⟩
    by_cases hc : elC ms [f] = 0
    · obtain ⟨E, ps, hE⟩ := elC_el hc
      have hB : isElB ms f = decide (f ∈ E) := by unfold isElB; rw [decide_eq_true hc, Bool.true_and, hE.r]
      rw [hB, hE.mon]
      by_cases hin : f ∈ E
      · right; left; simp [hin, hc]
      · left; simp [hin, hc]
    · right; right
      have hB : isElB ms f = false := by unfold isElB; rw [decide_eq_false hc, Bool.false_and]
      rw [elC_mon hc]
      exact ⟨(elC_p hc).1, (elC_p hc).2, hB, rfl⟩
  obtain ⟨x, hx, key⟩ := key
  have Hmx := Lib.hid hx
  clear hx
  go_enter Tryz.func27, Tryz.ntmps27
  go_wp2_with fail
  rw [← Hwb.out]
  refine (monoidOf_any A (some ⟨w.heap.size + 1, 0, none⟩) n c 1 1 ms [f] wb Hx.out H7.out Hn.out rfl HA.out (fun h => (by cases h)) (by omega)).mono ?_
  rintro e w1 ⟨r, v, rfl, hb1, hr0, hs⟩
  rw [Hmx.out]
  have Hb2 := Lib.hid (Hbb.out.trans (hb1.mono Hbb.out.size))
  clear hb1 hs hr0
  rcases key with ⟨rfl, hB, hc⟩ | ⟨rfl, hB, hc⟩ | ⟨p0, p4, hB, hc⟩
  · have HB := Lib.hid hB
    have Hc := Lib.hid hc
    clear hB hc
    go_wp2
    go_ret2
    exact ⟨by rw [HB.out, Hc.out] <;> rfl, Hb2.out⟩
  · have HB := Lib.hid hB
    have Hc := Lib.hid hc
    clear hB hc
    go_wp2
    go_ret2
    exact ⟨by rw [HB.out, Hc.out] <;> rfl, Hb2.out⟩
  · have HB := Lib.hid hB
    have Hc := Lib.hid hc
    have h4 : (x == 4) = false := by simp; omega
    have h0 : (x == 0) = false := by simp; omega
    clear hB hc
    go_wp2
    go_ret2
    exact ⟨by rw [HB.out, Hc.out] <;> rfl, Hb2.out⟩
end Go.Proofs.YtchjegojcpbfpaaGreat

namespace Go.Proofs.YtchjegojcpbfpaaGreat
open Go.RowKit
set_option maxRecDepth 100000
set_option linter.unusedSimpArgs false
def pc (E : List M) (i k : Nat) : Nat := ix E (mul (gm E i) (gm E k))
theorem pc_lt {n : Int} {E : List M} (hm : Mnd n E) {i k : Nat} (hi : i < E.length) (hk : k < E.length) : pc E i k < E.length := hm.ix_mul hi hk
theorem gm_pc {n : Int} {E : List M} (hm : Mnd n E) {i k : Nat} (hi : i < E.length) (hk : k < E.length) : gm E (pc E i k) = mul (gm E i) (gm E k) := gm_ix (hm.mulE _ (gm_mem hi) _ (gm_mem hk))
theorem prod_any {n : Int} {B g : Nat} {E : List M} {us : List (List Int)} (i k : Nat) (w : World) (h : MonAt n B g E us w) (hE : E.length ≤ 300) (hm : Mnd n E) (hi : i < E.length) (hk : k < E.length) :
    Calls Tryz.prog 97 #[.pointer (some ⟨g, 0, none⟩), I i, I k] w fun e w' => e = .returned (I (pc E i k)) ∧ Below w.heap.size w w' := product_any i k w h hE hm hi hk
theorem beqc (x y : Nat) : ((x : Int) == (y : Int)) = (x == y) := by rw [Bool.eq_iff_iff, beq_iff_eq, beq_iff_eq]; omega
/-! ### central elements -/
theorem central1_any {n : Int} {B g : Nat} {E : List M} {us : List (List Int)} (b1 b2 i k : Nat) (w : World) (h : MonAt n B g E us w) (hE : E.length ≤ 300) (hm : Mnd n E) (hi : i < E.length) (hk : k < E.length)
    (c1 : w.cell? ⟨b1, 0, none⟩ = some (.pointer (some ⟨g, 0, none⟩))) (c2 : w.cell? ⟨b2, 0, none⟩ = some (I i)) :
    Calls Tryz.prog 99 #[I k, .pointer (some ⟨b1, 0, none⟩), .pointer (some ⟨b2, 0, none⟩)] w fun e w' => e = .returned (.bool (pc E i k == pc E k i)) ∧ Below w.heap.size w w' := by
  have H := Lib.hid h
  have C1 := Lib.hid c1
  have C2 := Lib.hid c2
  have l1 := World.block_lt_of_cell? w ⟨b1, 0, none⟩ c1
  have l2 := World.block_lt_of_cell? w ⟨b2, 0, none⟩ c2
  have HP := Lib.hid (fun w' (hS : Below w.heap.size w w') => prod_any i k w' (H.out.below hS (Nat.le_refl _)) hE hm hi hk)
  have HQ := Lib.hid (fun w' (hS : Below w.heap.size w w') => prod_any k i w' (H.out.below hS (Nat.le_refl _)) hE hm hk hi)
  obtain ⟨x, hx⟩ : ∃ x, x = pc E i k := ⟨_, rfl⟩
  obtain ⟨y, hy⟩ : ∃ y, y = pc E k i := ⟨_, rfl⟩
  rw [← hx] at HP ⊢
  rw [← hy] at HQ ⊢
  clear h c1 c2 hx hy H
  go_enter Tryz.func99, Tryz.ntmps99
  go_wp2_with fail
  refine wp_region_same [] rfl (by kernel_rfl) (by kernel_rfl) (by kernel_rfl) (fun w' => Below w.heap.size w w') _
    [.pointer (some ⟨g, 0, none⟩), I i, I k, I x, .pointer (some ⟨g, 0, none⟩), I k, I i, I y, .bool ((x : Int) == (y : Int)), .bool ((x : Int) == (y : Int))]
    (by simp only [putAll, List.setIfInBounds_toArray, List.set_cons_succ, List.set_cons_zero]; rfl) (Below.refl _ _).drew ?hop ?hQ
  case hop =>
    refine FixBL.toL (fun w' w'' hS hb => hS.trans (hb.mono hS.size)) _ _ ?_
    refine ⟨.inr ?_, .inr ?_, .inr ?_, .inr ?_, .inr ?_, .inr ?_, .inr ?_, .inr ?_, .inr ?_, .inr ?_, trivial⟩
    · (with_reducible refine FixB.of ?_ ?_; rfl; intro w' hS; have s0 := (hS.cell (p := ⟨b1, 0, none⟩) l1).trans C1.out; have s1 := (hS.cell (p := ⟨b2, 0, none⟩) l2).trans C2.out; clear hS; unfold Oper.wp; go_simp; first | done | exact Below.refl _ _)
    · (with_reducible refine FixB.of ?_ ?_; rfl; intro w' hS; have s0 := (hS.cell (p := ⟨b1, 0, none⟩) l1).trans C1.out; have s1 := (hS.cell (p := ⟨b2, 0, none⟩) l2).trans C2.out; clear hS; unfold Oper.wp; go_simp; first | done | exact Below.refl _ _)
    · (with_reducible refine FixB.of ?_ ?_; rfl; intro w' hS; have s0 := (hS.cell (p := ⟨b1, 0, none⟩) l1).trans C1.out; have s1 := (hS.cell (p := ⟨b2, 0, none⟩) l2).trans C2.out; clear hS; unfold Oper.wp; go_simp; first | done | exact Below.refl _ _)
    · (with_reducible refine FixB.of ?_ ?_; rfl; intro w' hS; have s3 := Lib.hid hS; unfold Oper.wp; clear hS; go_simp; refine (HP.out _ s3.out).mono ?_; rintro e w1 ⟨rfl, hb⟩; exact ⟨rfl, hb⟩)
    · (with_reducible refine FixB.of ?_ ?_; rfl; intro w' hS; have s0 := (hS.cell (p := ⟨b1, 0, none⟩) l1).trans C1.out; have s1 := (hS.cell (p := ⟨b2, 0, none⟩) l2).trans C2.out; clear hS; unfold Oper.wp; go_simp; first | done | exact Below.refl _ _)
    · (with_reducible refine FixB.of ?_ ?_; rfl; intro w' hS; have s0 := (hS.cell (p := ⟨b1, 0, none⟩) l1).trans C1.out; have s1 := (hS.cell (p := ⟨b2, 0, none⟩) l2).trans C2.out; clear hS; unfold Oper.wp; go_simp; first | done | exact Below.refl _ _)
    · (with_reducible refine FixB.of ?_ ?_; rfl; intro w' hS; have s0 := (hS.cell (p := ⟨b1, 0, none⟩) l1).trans C1.out; have s1 := (hS.cell (p := ⟨b2, 0, none⟩) l2).trans C2.out; clear hS; unfold Oper.wp; go_simp; first | done | exact Below.refl _ _)
    · (with_reducible refine FixB.of ?_ ?_; rfl; intro w' hS; have s3 := Lib.hid hS; unfold Oper.wp; clear hS; go_simp; refine (HQ.out _ s3.out).mono ?_; rintro e w1 ⟨rfl, hb⟩; exact ⟨rfl, hb⟩)
    · (with_reducible refine FixB.of ?_ ?_; rfl; intro w' hS; have s0 := (hS.cell (p := ⟨b1, 0, none⟩) l1).trans C1.out; have s1 := (hS.cell (p := ⟨b2, 0, none⟩) l2).trans C2.out; clear hS; unfold Oper.wp; go_simp; first | done | exact Below.refl _ _)
    · (with_reducible refine FixB.of ?_ ?_; rfl; intro w' hS; have s0 := (hS.cell (p := ⟨b1, 0, none⟩) l1).trans C1.out; have s1 := (hS.cell (p := ⟨b2, 0, none⟩) l2).trans C2.out; clear hS; unfold Oper.wp; go_simp; first | done | exact Below.refl _ _)
  case hQ =>
  intro wc hS _
  have Hb := Lib.hid hS
  clear hS
  go_wp2
  go_ret
  exact ⟨ret_bool (beqc x y), Hb.out⟩
def centB (E : List M) (i : Nat) : Bool := (List.range E.length).all fun k => pc E i k == pc E k i
theorem isCentral_any {n : Int} {B g : Nat} {E : List M} {us : List (List Int)} (i : Nat) (w : World) (h : MonAt n B g E us w) (hE : E.length ≤ 300) (hm : Mnd n E) (hi : i < E.length) :
    Calls Tryz.prog 63 #[.pointer (some ⟨g, 0, none⟩), I i] w fun e w' => e = .returned (.bool (centB E i)) ∧ Below w.heap.size w w' := by
  obtain ⟨wb, hwb⟩ : ∃ wb, wb = (w.alloc (.cells #[.pointer (some ⟨g, 0, none⟩)] 60)).alloc (.cells #[I i] 3) := ⟨_, rfl⟩
  have hbb : Below w.heap.size w wb := by rw [hwb]; exact ((Below.refl _ _).alloc (Nat.le_refl _) _).alloc (by simp) _
  have c1 : wb.cell? ⟨w.heap.size, 0, none⟩ = some (.pointer (some ⟨g, 0, none⟩)) := by rw [hwb]; exact (Blk.alloc (Blk.new w _ _) _).cell 0
  have c2 : wb.cell? ⟨w.heap.size + 1, 0, none⟩ = some (I i) := by rw [hwb]; exact (Blk.new' _ _ _ (by simp)).cell 0
  have l1 := World.block_lt_of_cell? wb ⟨w.heap.size, 0, none⟩ c1
  have l2 := World.block_lt_of_cell? wb ⟨w.heap.size + 1, 0, none⟩ c2
  have HP : Hid (PredC 99 #[.pointer (some ⟨w.heap.size, 0, none⟩), .pointer (some ⟨w.heap.size + 1, 0, none⟩)] E.length (fun k => pc E i k == pc E k i) wb) :=
    ⟨enters_of Tryz.func99 (by kernel_rfl) rfl, fun w' hb' k hk => central1_any _ _ i k w' ((h.below hbb (Nat.le_refl _)).below hb' (Nat.le_refl _)) hE hm hi hk ((hb'.cell l1).trans c1) ((hb'.cell l2).trans c2)⟩
  have HM := Lib.hid (h.below hbb (Nat.le_refl _))
  have Hbb := Lib.hid hbb
  have Hwb := Lib.hid hwb
  clear h hbb hwb c2 l1 l2
  go_enter Tryz.func63, Tryz.ntmps63
  go_wp2_with fail
  rw [← Hwb.out]
  refine (all_any _ _ _ wb HM.out hE (by omega) HP.out).mono ?_
  rintro e w1 ⟨rfl, hb1⟩
  have Hb := Lib.hid (Hbb.out.trans (hb1.mono Hbb.out.size))
  clear hb1
  go_wp2
  go_ret
  exact ⟨rfl, Hb.out⟩
/-! ### zeros of one side -/
theorem side1_any {n : Int} {B g : Nat} {E : List M} {us : List (List Int)} (b0 b1 b2 z i : Nat) (r : Bool) (w : World) (h : MonAt n B g E us w) (hE : E.length ≤ 300) (hm : Mnd n E) (hz : z < E.length) (hi : i < E.length)
    (c0 : w.cell? ⟨b0, 0, none⟩ = some (.bool r)) (c1 : w.cell? ⟨b1, 0, none⟩ = some (.pointer (some ⟨g, 0, none⟩))) (c2 : w.cell? ⟨b2, 0, none⟩ = some (I z)) :
    Calls Tryz.prog 96 #[I i, .pointer (some ⟨b0, 0, none⟩), .pointer (some ⟨b1, 0, none⟩), .pointer (some ⟨b2, 0, none⟩)] w fun e w' => e = .returned (.bool ((if r then pc E i z else pc E z i) == z)) ∧ Below w.heap.size w w' := by
  have H := Lib.hid h
  have C1 := Lib.hid c1
  have C2 := Lib.hid c2
  have l1 := World.block_lt_of_cell? w ⟨b1, 0, none⟩ c1
  have l2 := World.block_lt_of_cell? w ⟨b2, 0, none⟩ c2
  have HP := Lib.hid (fun w' (hS : Below w.heap.size w w') => prod_any i z w' (H.out.below hS (Nat.le_refl _)) hE hm hi hz)
  have HQ := Lib.hid (fun w' (hS : Below w.heap.size w w') => prod_any z i w' (H.out.below hS (Nat.le_refl _)) hE hm hz hi)
  obtain ⟨x, hx⟩ : ∃ x, x = pc E i z := ⟨_, rfl⟩
  obtain ⟨y, hy⟩ : ∃ y, y = pc E z i := ⟨_, rfl⟩
  rw [← hx] at HP ⊢
  rw [← hy] at HQ ⊢
  clear h c1 c2 hx hy H
  cases r
  · go_enter Tryz.func96, Tryz.ntmps96
    go_wp2_with fail
    refine wp_region_same [] rfl (by kernel_rfl) (by kernel_rfl) (by kernel_rfl) (fun w' => Below w.heap.size w w') _
      [.pointer (some ⟨g, 0, none⟩), I z, I i, I y, I z, .bool ((y : Int) == (z : Int)), .bool ((y : Int) == (z : Int))]
      (by simp only [putAll, List.setIfInBounds_toArray, List.set_cons_succ, List.set_cons_zero]; rfl) (Below.refl _ _).drew ?hop ?hQ
    case hop =>
      refine FixBL.toL (fun w' w'' hS hb => hS.trans (hb.mono hS.size)) _ _ ?_
      refine ⟨.inr ?_, .inr ?_, .inr ?_, .inr ?_, .inr ?_, .inr ?_, .inr ?_, trivial⟩
      · (with_reducible refine FixB.of ?_ ?_; rfl; intro w' hS; have s0 := (hS.cell (p := ⟨b1, 0, none⟩) l1).trans C1.out; have s1 := (hS.cell (p := ⟨b2, 0, none⟩) l2).trans C2.out; clear hS; unfold Oper.wp; go_simp; first | done | exact Below.refl _ _)
      · (with_reducible refine FixB.of ?_ ?_; rfl; intro w' hS; have s0 := (hS.cell (p := ⟨b1, 0, none⟩) l1).trans C1.out; have s1 := (hS.cell (p := ⟨b2, 0, none⟩) l2).trans C2.out; clear hS; unfold Oper.wp; go_simp; first | done | exact Below.refl _ _)
      · (with_reducible refine FixB.of ?_ ?_; rfl; intro w' hS; have s0 := (hS.cell (p := ⟨b1, 0, none⟩) l1).trans C1.out; have s1 := (hS.cell (p := ⟨b2, 0, none⟩) l2).trans C2.out; clear hS; unfold Oper.wp; go_simp; first | done | exact Below.refl _ _)
      · (with_reducible refine FixB.of ?_ ?_; rfl; intro w' hS; have s3 := Lib.hid hS; unfold Oper.wp; clear hS; go_simp; refine (HQ.out _ s3.out).mono ?_; rintro e w1 ⟨rfl, hb⟩; exact ⟨rfl, hb⟩)
      · (with_reducible refine FixB.of ?_ ?_; rfl; intro w' hS; have s0 := (hS.cell (p := ⟨b1, 0, none⟩) l1).trans C1.out; have s1 := (hS.cell (p := ⟨b2, 0, none⟩) l2).trans C2.out; clear hS; unfold Oper.wp; go_simp; first | done | exact Below.refl _ _)
      · (with_reducible refine FixB.of ?_ ?_; rfl; intro w' hS; have s0 := (hS.cell (p := ⟨b1, 0, none⟩) l1).trans C1.out; have s1 := (hS.cell (p := ⟨b2, 0, none⟩) l2).trans C2.out; clear hS; unfold Oper.wp; go_simp; first | done | exact Below.refl _ _)
      · (with_reducible refine FixB.of ?_ ?_; rfl; intro w' hS; have s0 := (hS.cell (p := ⟨b1, 0, none⟩) l1).trans C1.out; have s1 := (hS.cell (p := ⟨b2, 0, none⟩) l2).trans C2.out; clear hS; unfold Oper.wp; go_simp; first | done | exact Below.refl _ _)
    case hQ =>
    intro wc hS _
    have Hb := Lib.hid hS
    clear hS
    go_wp2
    go_ret
    exact ⟨ret_bool (beqc y z), Hb.out⟩
  · go_enter Tryz.func96, Tryz.ntmps96
    go_wp2_with fail
    refine wp_region_same [] rfl (by kernel_rfl) (by kernel_rfl) (by kernel_rfl) (fun w' => Below w.heap.size w w') _
      [.pointer (some ⟨g, 0, none⟩), I i, I z, I x, I z, .bool ((x : Int) == (z : Int)), .bool ((x : Int) == (z : Int))]
      (by simp only [putAll, List.setIfInBounds_toArray, List.set_cons_succ, List.set_cons_zero]; rfl) (Below.refl _ _).drew ?hop ?hQ
    case hop =>
      refine FixBL.toL (fun w' w'' hS hb => hS.trans (hb.mono hS.size)) _ _ ?_
      refine ⟨.inr ?_, .inr ?_, .inr ?_, .inr ?_, .inr ?_, .inr ?_, .inr ?_, trivial⟩
      · (with_reducible refine FixB.of ?_ ?_; rfl; intro w' hS; have s0 := (hS.cell (p := ⟨b1, 0, none⟩) l1).trans C1.out; have s1 := (hS.cell (p := ⟨b2, 0, none⟩) l2).trans C2.out; clear hS; unfold Oper.wp; go_simp; first | done | exact Below.refl _ _)
      · (with_reducible refine FixB.of ?_ ?_; rfl; intro w' hS; have s0 := (hS.cell (p := ⟨b1, 0, none⟩) l1).trans C1.out; have s1 := (hS.cell (p := ⟨b2, 0, none⟩) l2).trans C2.out; clear hS; unfold Oper.wp; go_simp; first | done | exact Below.refl _ _)
      · (with_reducible refine FixB.of ?_ ?_; rfl; intro w' hS; have s0 := (hS.cell (p := ⟨b1, 0, none⟩) l1).trans C1.out; have s1 := (hS.cell (p := ⟨b2, 0, none⟩) l2).trans C2.out; clear hS; unfold Oper.wp; go_simp; first | done | exact Below.refl _ _)
      · (with_reducible refine FixB.of ?_ ?_; rfl; intro w' hS; have s3 := Lib.hid hS; unfold Oper.wp; clear hS; go_simp; refine (HP.out _ s3.out).mono ?_; rintro e w1 ⟨rfl, hb⟩; exact ⟨rfl, hb⟩)
      · (with_reducible refine FixB.of ?_ ?_; rfl; intro w' hS; have s0 := (hS.cell (p := ⟨b1, 0, none⟩) l1).trans C1.out; have s1 := (hS.cell (p := ⟨b2, 0, none⟩) l2).trans C2.out; clear hS; unfold Oper.wp; go_simp; first | done | exact Below.refl _ _)
      · (with_reducible refine FixB.of ?_ ?_; rfl; intro w' hS; have s0 := (hS.cell (p := ⟨b1, 0, none⟩) l1).trans C1.out; have s1 := (hS.cell (p := ⟨b2, 0, none⟩) l2).trans C2.out; clear hS; unfold Oper.wp; go_simp; first | done | exact Below.refl _ _)
      · (with_reducible refine FixB.of ?_ ?_; rfl; intro w' hS; have s0 := (hS.cell (p := ⟨b1, 0, none⟩) l1).trans C1.out; have s1 := (hS.cell (p := ⟨b2, 0, none⟩) l2).trans C2.out; clear hS; unfold Oper.wp; go_simp; first | done | exact Below.refl _ _)
    case hQ =>
    intro wc hS _
    have Hb := Lib.hid hS
    clear hS
    go_wp2
    go_ret
    exact ⟨ret_bool (beqc x z), Hb.out⟩
def sideP (E : List M) (r : Bool) (z i : Nat) : Bool := (if r then pc E i z else pc E z i) == z
def sideB (E : List M) (r : Bool) (z : Nat) : Bool := (List.range E.length).all (sideP E r z)
theorem isSideZero_any {n : Int} {B g : Nat} {E : List M} {us : List (List Int)} (z : Nat) (r : Bool) (w : World) (h : MonAt n B g E us w) (hE : E.length ≤ 300) (hm : Mnd n E) (hz : z < E.length) :
    Calls Tryz.prog 55 #[.pointer (some ⟨g, 0, none⟩), I z, .bool r] w fun e w' => e = .returned (.bool (sideB E r z)) ∧ Below w.heap.size w w' := by
  obtain ⟨wb, hwb⟩ : ∃ wb, wb = ((w.alloc (.cells #[.pointer (some ⟨g, 0, none⟩)] 60)).alloc (.cells #[I z] 3)).alloc (.cells #[.bool r] 4) := ⟨_, rfl⟩
  have hbb : Below w.heap.size w wb := by rw [hwb]; exact (((Below.refl _ _).alloc (Nat.le_refl _) _).alloc (by simp) _).alloc (by simp; omega) _
  have c1 : wb.cell? ⟨w.heap.size, 0, none⟩ = some (.pointer (some ⟨g, 0, none⟩)) := by rw [hwb]; exact (Blk.alloc (Blk.alloc (Blk.new w _ _) _) _).cell 0
  have c2 : wb.cell? ⟨w.heap.size + 1, 0, none⟩ = some (I z) := by rw [hwb]; exact (Blk.alloc (Blk.new' _ _ _ (by simp)) _).cell 0
  have c3 : wb.cell? ⟨w.heap.size + 1 + 1, 0, none⟩ = some (.bool r) := by rw [hwb]; exact (Blk.new' _ _ _ (by simp)).cell 0
  have l1 := World.block_lt_of_cell? wb ⟨w.heap.size, 0, none⟩ c1
  have l2 := World.block_lt_of_cell? wb ⟨w.heap.size + 1, 0, none⟩ c2
  have l3 := World.block_lt_of_cell? wb ⟨w.heap.size + 1 + 1, 0, none⟩ c3
  have HP : Hid (PredC 96 #[.pointer (some ⟨w.heap.size + 1 + 1, 0, none⟩), .pointer (some ⟨w.heap.size, 0, none⟩), .pointer (some ⟨w.heap.size + 1, 0, none⟩)] E.length (sideP E r z) wb) :=
    ⟨enters_of Tryz.func96 (by kernel_rfl) rfl, fun w' hb' k hk => side1_any _ _ _ z k r w' ((h.below hbb (Nat.le_refl _)).below hb' (Nat.le_refl _)) hE hm hz hk ((hb'.cell l3).trans c3) ((hb'.cell l1).trans c1) ((hb'.cell l2).trans c2)⟩
  have HM := Lib.hid (h.below hbb (Nat.le_refl _))
  have Hbb := Lib.hid hbb
  have Hwb := Lib.hid hwb
  clear h hbb hwb c2 c3 l1 l2 l3
  go_enter Tryz.func55, Tryz.ntmps55
  go_wp2_with fail
  rw [← Hwb.out]
  refine (all_any _ _ _ wb HM.out hE (by omega) HP.out).mono ?_
  rintro e w1 ⟨rfl, hb1⟩
  have Hb := Lib.hid (Hbb.out.trans (hb1.mono Hbb.out.size))
  clear hb1
  go_wp2
  go_ret
  exact ⟨rfl, Hb.out⟩
/-! ### some element is such -/
/-! ### regular elements -/
set_option maxRecDepth 100000
set_option linter.unusedSimpArgs false
def thatE (p : Nat → Bool) (E : List M) : List M := ((List.range E.length).filter p).map (gm E)
def thatR (p : List M → Nat → Bool) (ms : List M) : List M := thatE (p (elR ms [])) (elR ms [])
theorem range_gm' (E : List M) : (List.range E.length).map (gm E) = E := by
  refine List.ext_getElem (by simp) fun i h1 h2 => ?_
  simp [gm_eq h2]
theorem thatE_filter (P : M → Bool) (E : List M) : thatE (fun i => P (gm E i)) E = E.filter P := by
  unfold thatE
  conv => rhs; rw [← range_gm' E]
  rw [List.filter_map]
  rfl
theorem thatE_congr {p q : Nat → Bool} {E : List M} (h : ∀ i, i < E.length → p i = q i) : thatE p E = thatE q E := by
  unfold thatE
  congr 1
  exact List.filter_congr fun i hi => h i (List.mem_range.1 hi)
theorem et1_any (F : Nat) (caps : Array Value) (b1 b2 g i : Nat) (q : Bool) (w : World) (eg : ∀ args w, (callFunc F args).run Tryz.prog w = .ok (.enter F args) w)
    (hF : Calls Tryz.prog F (#[.pointer (some ⟨g, 0, none⟩), I i] ++ caps) w fun e w2 => e = .returned (.bool q) ∧ Below w.heap.size w w2)
    (c1 : w.cell? ⟨b1, 0, none⟩ = some (.func (.func F) #[] caps)) (c2 : w.cell? ⟨b2, 0, none⟩ = some (.pointer (some ⟨g, 0, none⟩))) :
    Calls Tryz.prog 92 #[I i, .pointer (some ⟨b1, 0, none⟩), .pointer (some ⟨b2, 0, none⟩)] w fun e w' => e = .returned (.bool q) ∧ Below w.heap.size w w' := by
  have HF := Lib.hid hF
  clear hF
  go_enter Tryz.func92, Tryz.ntmps92
  go_wp2_with fail
  refine HF.out.mono ?_
  rintro e w1 ⟨rfl, hb1⟩
  go_wp2
  go_ret
  exact ⟨rfl, hb1⟩
theorem elementsThat_any (A : Option Addr) (n c : Nat) (ms : List M) (F : Nat) (caps : Array Value) (p : List M → Nat → Bool) (w : World) (hx : RdM w w.heap.size A ms) (hn : ms.length = n) (hA : A = none → n = 0 ∧ c = 0) (hb : n < 536870912)
    (eg : ∀ args w, (callFunc F args).run Tryz.prog w = .ok (.enter F args) w)
    (hF : ∀ E ps, El ms [] E ps → ∀ B g us w1, MonAt (gm ms 0).p B g E us w1 → Below w.heap.size w w1 → ∀ i, i < E.length → Calls Tryz.prog F (#[.pointer (some ⟨g, 0, none⟩), I i] ++ caps) w1 fun e w2 => e = .returned (.bool (p E i)) ∧ Below w1.heap.size w1 w2) :
    Calls Tryz.prog 49 #[.slice A n c, .func (.func F) #[] caps] w (RetM (thatR p ms) (elC ms []) w) := by
  obtain ⟨wb, hwb⟩ : ∃ wb, wb = w.alloc (.cells #[.func (.func F) #[] caps] 66) := ⟨_, rfl⟩
  have hbb : Below w.heap.size w wb := by rw [hwb]; exact (Below.refl _ _).alloc (Nat.le_refl _) _
  have c1 : wb.cell? ⟨w.heap.size, 0, none⟩ = some (.func (.func F) #[] caps) := by rw [hwb]; exact (Blk.new w _ _).cell 0
  have l1 := World.block_lt_of_cell? wb ⟨w.heap.size, 0, none⟩ c1
  have Hx := Lib.hid (Rd.more (Rd.below hx hbb) hbb.size)
  have Hn := Lib.hid hn
  have HA := Lib.hid hA
  have Hbb := Lib.hid hbb
  have Hwb := Lib.hid hwb
  have HF := Lib.hid hF
  have C1 := Lib.hid c1
  have Heg := Lib.hid eg
  have hcc := monC_nil ms
  clear hx hn hA hbb hwb hF c1 eg
  by_cases hc : elC ms [] = 0
  · obtain ⟨E, ps, hE⟩ := elC_el hc
    have HE := Lib.hid hE
    have hlen := hE.len
    have hpos := hE.pos
    rw [hc] at hcc
    have Hc := Lib.hid hc
    have Hcc := Lib.hid hcc
    clear hE hc hcc
    go_enter Tryz.func49, Tryz.ntmps49
    go_wp2_with fail
    rw [← Hwb.out]
    refine (monoidOf_any A none n c 0 0 ms [] wb Hx.out Rd.nil_ Hn.out rfl HA.out (fun _ => ⟨rfl, rfl⟩) (by omega)).mono ?_
    rintro e w1 ⟨r, v, rfl, hb1, hr0, hs⟩
    obtain ⟨g, rfl, hM, _⟩ := hs ps HE.out.clo Hcc.out
    rw [← HE.out.eq] at hM
    rw [Hcc.out]
    obtain ⟨w2, hw2⟩ : ∃ w2, w2 = w1.alloc (.cells #[.pointer (some ⟨g, 0, none⟩)] 60) := ⟨_, rfl⟩
    have h12 : Below w1.heap.size w1 w2 := by rw [hw2]; exact (Below.refl _ _).alloc (Nat.le_refl _) _
    have c2 : w2.cell? ⟨w1.heap.size, 0, none⟩ = some (.pointer (some ⟨g, 0, none⟩)) := by rw [hw2]; exact (Blk.new w1 _ _).cell 0
    have l2 := World.block_lt_of_cell? w2 ⟨w1.heap.size, 0, none⟩ c2
    have hb2 : Below wb.heap.size wb w2 := hb1.trans (h12.mono hb1.size)
    have c3 := (hb2.cell (p := ⟨w.heap.size, 0, none⟩) l1).trans C1.out
    have l3 := World.block_lt_of_cell? w2 ⟨w.heap.size, 0, none⟩ c3
    have HP : Hid (PredC 92 #[.pointer (some ⟨w.heap.size, 0, none⟩), .pointer (some ⟨w1.heap.size, 0, none⟩)] E.length (p E) w2) :=
      ⟨enters_of Tryz.func92 (by kernel_rfl) rfl, fun w' hb' i hi => et1_any F caps _ _ g i (p E i) w' Heg.out (HF.out E ps HE.out _ g _ w' (hM.below (h12.trans (hb'.mono h12.size)) (Nat.le_refl _)) (Hbb.out.trans ((hb2.trans (hb'.mono hb2.size)).mono Hbb.out.size)) i hi) ((hb'.cell l3).trans c3) ((hb'.cell l2).trans c2)⟩
    have HM := Lib.hid (hM.below h12 (Nat.le_refl _))
    have Hb2 := Lib.hid (Hbb.out.trans (hb2.mono Hbb.out.size))
    have Hw2 := Lib.hid hw2
    have hsz := hb2.size
    clear hM hs hb1 hr0 hw2 h12 l2 hb2 c3 l3
    go_wp2_with fail
    rw [← Hw2.out]
    clear Hw2
    refine (only_any _ _ (p E) w2 HM.out hlen hpos HP.out).mono ?_
    rintro e w3 ⟨v', rfl, ho, hb3⟩
    have hR : thatR p ms = thatE (p E) E := by unfold thatR; rw [HE.out.r]
    have Ho : Hid (OwM 31 w3 w.heap.size v' (thatR p ms)) := by show OwM _ _ _ _ _; rw [hR]; exact ho.mono Hb2.out.size
    have Hb3 := Lib.hid (Hb2.out.trans (hb3.mono Hb2.out.size))
    obtain ⟨A', c', e', _⟩ := ho.form
    obtain ⟨k, hk⟩ : ∃ k, k = (((List.range E.length).filter (p E)).map (gm E)).length := ⟨_, rfl⟩
    rw [← hk] at e'
    subst e'
    clear ho hb3 hR hk
    go_wp2
    go_ret2
    exact .mk _ (by rw [Hc.out] <;> rfl) Ho.out Hb3.out
  · have hR : thatR p ms = [] := by unfold thatR; rw [elR_bad hc]; rfl
    have HR := Lib.hid hR
    have Hcc := Lib.hid hcc
    obtain ⟨p0, p4⟩ := elC_p hc
    have hne : (elC ms [] != 0) = true := by simpa using hc
    clear hc hcc hR
    go_enter Tryz.func49, Tryz.ntmps49
    go_wp2_with fail
    rw [← Hwb.out]
    refine (monoidOf_any A none n c 0 0 ms [] wb Hx.out Rd.nil_ Hn.out rfl HA.out (fun _ => ⟨rfl, rfl⟩) (by omega)).mono ?_
    rintro e w1 ⟨r, v, rfl, hb1, hr0, hs⟩
    have hne0 : monC ms [] ≠ 0 := by rw [Hcc.out]; omega
    obtain rfl := (hr0 hne0).1
    clear hne0
    rw [Hcc.out]
    have Hb := Lib.hid (Hbb.out.trans (hb1.mono Hbb.out.size))
    clear hb1 hs
    go_wp2
    go_ret2
    exact .mk _ rfl (by rw [HR.out]; exact OwM.nil_) ((Hb.out).alloc Hb.out.size _)
set_option maxRecDepth 100000
set_option linter.unusedSimpArgs false
theorem centreF_any (A : Option Addr) (n c : Nat) (ms : List M) (w : World) (hx : RdM w w.heap.size A ms) (hn : ms.length = n) (hA : A = none → n = 0 ∧ c = 0) (hb : n < 536870912) :
    Calls Tryz.prog 17 #[.slice A n c] w (RetM (thatR centB ms) (elC ms []) w) := by
  have H := Lib.hid (elementsThat_any A n c ms 63 #[] centB w hx hn hA hb (enters_of Tryz.func63 (by kernel_rfl) rfl)
    fun E ps hE B g us w1 hM _ i hi => isCentral_any i w1 hM hE.len hE.mnd hi)
  clear hx hn hA
  go_enter Tryz.func17, Tryz.ntmps17
  go_wp2_with fail
  refine H.out.mono ?_
  rintro e w1 ⟨v, rfl, ho, hb1⟩
  obtain ⟨A', c', rfl, _⟩ := ho.form
  have Ho := Lib.hid ho
  clear ho
  go_wp2
  go_ret2
  exact .mk _ rfl Ho.out hb1
theorem idem1_any {n : Int} {B g : Nat} {E : List M} {us : List (List Int)} (i : Nat) (w : World) (h : MonAt n B g E us w) (hm : Mnd n E) (hi : i < E.length) :
    Calls Tryz.prog 60 #[.pointer (some ⟨g, 0, none⟩), I i] w fun e w' => e = .returned (.bool (isIdem (gm E i))) ∧ Below w.heap.size w w' := by
  obtain ⟨_, ev, wv, pl, vs, hM, hP, hO, _⟩ := h
  obtain ⟨gE, cE, rfl⟩ := hO.some_ (by omega)
  have c0 := hM.c0
  have hv := (hm.ok _ (gm_mem hi)).1
  have h6 := RdM.at_ hO.rd (k := i) hi
  obtain ⟨b', off', e, _, h6⟩ := h6
  injection e with e
  injection e with e1 e2 _
  subst e1 e2
  rw [Nat.zero_add] at h6
  obtain ⟨f, hf⟩ : ∃ f, f = gm E i := ⟨_, rfl⟩
  rw [← hf] at h6 hv ⊢
  obtain ⟨x0, x1, x2, x3, x4, x5⟩ := h6
  have ki : (i : Int) < (E.length : Int) := by omega
  clear hM hP hO hf
  go_enter Tryz.func60, Tryz.ntmps60
  go_wp2_with fail
  refine (isIdem_any f w hv).mono ?_
  rintro e w1 ⟨rfl, hb1⟩
  go_wp2
  go_ret
  exact ⟨rfl, hb1⟩
def idemB (E : List M) (i : Nat) : Bool := isIdem (gm E i)
theorem idemF_any (A : Option Addr) (n c : Nat) (ms : List M) (w : World) (hx : RdM w w.heap.size A ms) (hn : ms.length = n) (hA : A = none → n = 0 ∧ c = 0) (hb : n < 536870912) :
    Calls Tryz.prog 15 #[.slice A n c] w (RetM (thatR idemB ms) (elC ms []) w) := by
  have H := Lib.hid (elementsThat_any A n c ms 60 #[] idemB w hx hn hA hb (enters_of Tryz.func60 (by kernel_rfl) rfl)
    fun E ps hE B g us w1 hM _ i hi => idem1_any i w1 hM hE.mnd hi)
  clear hx hn hA
  go_enter Tryz.func15, Tryz.ntmps15
  go_wp2_with fail
  refine H.out.mono ?_
  rintro e w1 ⟨v, rfl, ho, hb1⟩
  obtain ⟨A', c', rfl, _⟩ := ho.form
  have Ho := Lib.hid ho
  clear ho
  go_wp2
  go_ret2
  exact .mk _ rfl Ho.out hb1
theorem sideF1_any {n : Int} {B g : Nat} {E : List M} {us : List (List Int)} (b i : Nat) (r : Bool) (w : World) (h : MonAt n B g E us w) (hE : E.length ≤ 300) (hm : Mnd n E) (hi : i < E.length) (c1 : w.cell? ⟨b, 0, none⟩ = some (.bool r)) :
    Calls Tryz.prog 59 #[.pointer (some ⟨g, 0, none⟩), I i, .pointer (some ⟨b, 0, none⟩)] w fun e w' => e = .returned (.bool (sideB E r i)) ∧ Below w.heap.size w w' := by
  have H := Lib.hid (isSideZero_any i r w h hE hm hi)
  clear h
  go_enter Tryz.func59, Tryz.ntmps59
  go_wp2_with fail
  refine H.out.mono ?_
  rintro e w1 ⟨rfl, hb1⟩
  go_wp2
  go_ret
  exact ⟨rfl, hb1⟩
theorem sideF_any (A : Option Addr) (n c : Nat) (ms : List M) (r : Bool) (w : World) (hx : RdM w w.heap.size A ms) (hn : ms.length = n) (hA : A = none → n = 0 ∧ c = 0) (hb : n < 536870912) :
    Calls Tryz.prog 13 #[.slice A n c, .bool r] w (RetM (thatR (fun E => sideB E r) ms) (elC ms []) w) := by
  obtain ⟨wb, hwb⟩ : ∃ wb, wb = w.alloc (.cells #[.bool r] 4) := ⟨_, rfl⟩
  have hbb : Below w.heap.size w wb := by rw [hwb]; exact (Below.refl _ _).alloc (Nat.le_refl _) _
  have c1 : wb.cell? ⟨w.heap.size, 0, none⟩ = some (.bool r) := by rw [hwb]; exact (Blk.new w _ _).cell 0
  have l1 := World.block_lt_of_cell? wb ⟨w.heap.size, 0, none⟩ c1
  have H := Lib.hid (elementsThat_any A n c ms 59 #[.pointer (some ⟨w.heap.size, 0, none⟩)] (fun E => sideB E r) wb (Rd.more (Rd.below hx hbb) hbb.size) hn hA hb (enters_of Tryz.func59 (by kernel_rfl) rfl)
    fun E ps hE B g us w1 hM hb1 i hi => sideF1_any _ i r w1 hM hE.len hE.mnd hi ((hb1.cell l1).trans c1))
  have Hbb := Lib.hid hbb
  have Hwb := Lib.hid hwb
  obtain ⟨R, hR⟩ : ∃ R, R = thatR (fun E => sideB E r) ms := ⟨_, rfl⟩
  rw [← hR] at H ⊢
  clear hx hn hA hbb hwb c1 l1 hR
  go_enter Tryz.func13, Tryz.ntmps13
  go_wp2_with fail
  rw [← Hwb.out]
  refine H.out.mono ?_
  rintro e w1 ⟨v, rfl, ho, hb1⟩
  obtain ⟨A', c', rfl, _⟩ := ho.form
  have Ho := Lib.hid (ho.mono Hbb.out.size)
  have Hb := Lib.hid (Hbb.out.trans (hb1.mono Hbb.out.size))
  clear ho hb1
  go_wp2
  go_ret2
  exact .mk _ rfl Ho.out Hb.out
/-! ### zeros -/
def zeroB (E : List M) (i : Nat) : Bool := sideB E true i && sideB E false i
theorem zeroF1_any {n : Int} {B g : Nat} {E : List M} {us : List (List Int)} (i : Nat) (w : World) (h : MonAt n B g E us w) (hE : E.length ≤ 300) (hm : Mnd n E) (hi : i < E.length) :
    Calls Tryz.prog 54 #[.pointer (some ⟨g, 0, none⟩), I i] w fun e w' => e = .returned (.bool (zeroB E i)) ∧ Below w.heap.size w w' := by
  have H1 := Lib.hid (isSideZero_any i true w h hE hm hi)
  have H2 := Lib.hid (fun w' (hb : Below w.heap.size w w') => isSideZero_any i false w' (h.below hb (Nat.le_refl _)) hE hm hi)
  clear h
  cases hs : sideB E true i
  · rw [hs] at H1
    have Hr : Hid (zeroB E i = false) := by show _ = _; unfold zeroB; rw [hs]; rfl
    clear hs
    go_enter Tryz.func54, Tryz.ntmps54
    go_wp2_with fail
    refine H1.out.mono ?_
    rintro e w1 ⟨rfl, hb1⟩
    go_wp2
    go_ret
    exact ⟨ret_bool Hr.out.symm, hb1⟩
  · rw [hs] at H1
    have Hr : Hid (zeroB E i = sideB E false i) := by show _ = _; unfold zeroB; rw [hs]; rfl
    clear hs
    go_enter Tryz.func54, Tryz.ntmps54
    go_wp2_with fail
    refine H1.out.mono ?_
    rintro e w1 ⟨rfl, hb1⟩
    have Hb1 := Lib.hid hb1
    clear hb1
    go_wp2_with fail
    refine (H2.out w1 Hb1.out).mono ?_
    rintro e w2 ⟨rfl, hb2⟩
    have Hb := Lib.hid (Hb1.out.trans (hb2.mono Hb1.out.size))
    clear hb2
    go_wp2
    go_ret
    exact ⟨ret_bool Hr.out.symm, Hb.out⟩
def zeroR (ms : List M) : M := (thatR zeroB ms).headD M0
def zeroC (ms : List M) : Int := if elC ms [] = 0 then (if thatR zeroB ms = [] then 4 else 0) else elC ms []
theorem zeroF_any (A : Option Addr) (n c : Nat) (ms : List M) (w : World) (hx : RdM w w.heap.size A ms) (hn : ms.length = n) (hA : A = none → n = 0 ∧ c = 0) (hb : n < 536870912) :
    Calls Tryz.prog 10 #[.slice A n c] w fun e w' => e = .returned (.tuple #[.agg (mc (zeroR ms)), I (zeroC ms)]) ∧ Below w.heap.size w w' := by
  obtain ⟨wb, hwb⟩ : ∃ wb, wb = w.alloc (.cells #[.int .i64 0, .int .i64 0, .int .i64 0, .int .i64 0, .int .i64 0, .int .i64 0] 31) := ⟨_, rfl⟩
  have hbb : Below w.heap.size w wb := by rw [hwb]; exact (Below.refl _ _).alloc (Nat.le_refl _) _
  have HB : Hid (Blk wb w.heap.size 31 (mc M0)) := by show Blk _ _ _ _; rw [hwb]; exact Blk.new w _ _
  have H := Lib.hid (elementsThat_any A n c ms 54 #[] zeroB wb (Rd.more (Rd.below hx hbb) hbb.size) hn hA hb (enters_of Tryz.func54 (by kernel_rfl) rfl)
    fun E ps hE B g us w1 hM _ i hi => zeroF1_any i w1 hM hE.len hE.mnd hi)
  have Hbb := Lib.hid hbb
  have Hwb := Lib.hid hwb
  have hlt := HB.out.lt
  clear hx hn hA hbb hwb
  by_cases hc : elC ms [] = 0
  · rw [hc] at H
    cases hz : thatR zeroB ms with
    | nil =>
      have HC : Hid (zeroC ms = 4) := by show _ = _; unfold zeroC; rw [if_pos hc, if_pos hz]
      have HR : Hid (zeroR ms = M0) := by show _ = _; unfold zeroR; rw [hz]; rfl
      rw [hz] at H
      clear hc hz
      go_enter Tryz.func10, Tryz.ntmps10
      go_wp2_with fail
      rw [← Hwb.out]
      refine H.out.mono ?_
      rintro e w1 ⟨v, rfl, ho, hb1⟩
      obtain ⟨A', c', rfl, _⟩ := ho.form
      have HB1 := HB.out.below hb1 hlt
      obtain ⟨e0, e1, e2, e3, e4, e5⟩ := HB1.six
      obtain ⟨z0, z1, z2, z3, z4, z5⟩ := HB1.fr6
      have Hb := Lib.hid (Hbb.out.trans (hb1.mono Hbb.out.size))
      clear ho hb1
      go_wp2
      refine bodyPost_ret (v := .tuple #[.agg (mc M0), I 4]) ?_ rfl ⟨by rw [HR.out, HC.out], below_st6 Hb.out (Nat.le_refl _) M0⟩
      simp [results, Tryz.results10, go_sem, *]
      exact ⟨rfl, rfl, rfl, rfl, rfl, rfl⟩
    | cons f L =>
      have HC : Hid (zeroC ms = 0) := by show _ = _; unfold zeroC; rw [if_pos hc, if_neg (by rw [hz]; simp)]
      have HR : Hid (zeroR ms = f) := by show _ = _; unfold zeroR; rw [hz]; rfl
      rw [hz] at H
      clear hc hz
      go_enter Tryz.func10, Tryz.ntmps10
      go_wp2_with fail
      rw [← Hwb.out]
      refine H.out.mono ?_
      rintro e w1 ⟨v, rfl, ho, hb1⟩
      obtain ⟨g, c', rfl⟩ := ho.some_ (by simp)
      have h6 := RdM.at_ ho.rd (k := 0) (by simp)
      obtain ⟨b', off', e, _, h6⟩ := h6
      injection e with e
      injection e with e1 e2 _
      subst e1 e2
      rw [Nat.zero_add, Nat.zero_mul] at h6
      obtain ⟨x0, x1, x2, x3, x4, x5⟩ := h6
      have hgm : gm (f :: L) 0 = f := rfl
      rw [hgm] at x0 x1 x2 x3 x4 x5
      rw [List.length_cons] at *
      have HB1 := HB.out.below hb1 hlt
      have Hbk := Lib.hid HB1
      obtain ⟨e0, e1, e2, e3, e4, e5⟩ := HB1.six
      obtain ⟨z0, z1, z2, z3, z4, z5⟩ := HB1.fr6
      have Hb := Lib.hid (Hbb.out.trans (hb1.mono Hbb.out.size))
      have hl0 : ¬ ((L.length : Int) + 1 = 0) := by omega
      clear ho hb1 hgm HB1
      go_wp2
      refine bodyPost_ret (v := .tuple #[.agg (mc f), I 0]) ?_ rfl ⟨by rw [HR.out, HC.out], below_st6 Hb.out (Nat.le_refl _) f⟩
      simp [results, Tryz.results10, go_sem, *]
  · have hR : thatR zeroB ms = [] := by unfold thatR; rw [elR_bad hc]; rfl
    have HC : Hid (zeroC ms = elC ms []) := by show _ = _; unfold zeroC; rw [if_neg hc]
    have HR : Hid (zeroR ms = M0) := by show _ = _; unfold zeroR; rw [hR]; rfl
    have hne : (elC ms [] != 0) = true := by simpa using hc
    clear hc hR
    go_enter Tryz.func10, Tryz.ntmps10
    go_wp2_with fail
    rw [← Hwb.out]
    refine H.out.mono ?_
    rintro e w1 ⟨v, rfl, ho, hb1⟩
    obtain ⟨A', c', rfl, _⟩ := ho.form
    have HB1 := HB.out.below hb1 hlt
    obtain ⟨e0, e1, e2, e3, e4, e5⟩ := HB1.six
    obtain ⟨z0, z1, z2, z3, z4, z5⟩ := HB1.fr6
    have Hb := Lib.hid (Hbb.out.trans (hb1.mono Hbb.out.size))
    clear ho hb1
    go_wp2
    refine bodyPost_ret (v := .tuple #[.agg (mc M0), I (elC ms [])]) ?_ rfl ⟨by rw [HR.out, HC.out], below_st6 Hb.out (Nat.le_refl _) M0⟩
    simp [results, Tryz.results10, go_sem, *]
    exact ⟨rfl, rfl, rfl, rfl, rfl, rfl⟩
set_option maxRecDepth 100000
set_option linter.unusedSimpArgs false
theorem allB_any {n : Int} {B g : Nat} {E : List M} {us : List (List Int)} (fn : Nat) (p : Nat → Bool) (w : World) (h : MonAt n B g E us w) (hpos : 0 < E.length) (hE : E.length ≤ 300)
    (eg : ∀ args w, (callFunc fn args).run Tryz.prog w = .ok (.enter fn args) w)
    (hc : ∀ w', Below w.heap.size w w' → ∀ i, i < E.length → Calls Tryz.prog fn #[.pointer (some ⟨g, 0, none⟩), I i] w' fun e w'' => e = .returned (.bool (p i)) ∧ Below w'.heap.size w' w'') :
    Calls Tryz.prog 67 #[.pointer (some ⟨g, 0, none⟩), .func (.func fn) #[.pointer (some ⟨g, 0, none⟩)] #[]] w fun e w' => e = .returned (.bool ((List.range E.length).all p)) ∧ Below w.heap.size w w' := by
  obtain ⟨_, ev, wv, pl, vs, hM, hP, hO, _⟩ := h
  obtain ⟨gE, cE, rfl⟩ := hO.some_ (by omega)
  have c0 := hM.c0
  have Hc := Lib.hid hc
  clear hM hP hO hc
  go_enter Tryz.func67, Tryz.ntmps67
  go_wp2_with fail
  go_loopw [11] (fun i wr => ∃ r : Nat, i = .int .i64 r ∧ r ≤ E.length ∧ Below w.heap.size w wr ∧ (List.range r).all p = true) (fun i _ => E.length - (intOf i).toNat)
  case atStart => exact ⟨0, rfl, by omega, Below.refl _ _, rfl⟩
  case round =>
    obtain ⟨r, rfl, hr, hb, hp⟩ := hrel
    have Hb := Lib.hid hb
    have Hp := Lib.hid hp
    clear hb hp
    by_cases hrl : r < E.length
    · have hrE : (r : Int) < (E.length : Int) := by omega
      go_wp2_with fail
      refine (Hc.out _ Hb.out r hrl).mono ?_
      rintro e w2 ⟨rfl, hb2⟩
      have Hb2 := Lib.hid (Hb.out.trans (hb2.mono Hb.out.size))
      have hs : (List.range (r + 1)).all p = p r := by rw [List.range_succ, List.all_append, Hp.out]; simp
      clear hb2
      cases hpr : p r
      · have hall : (List.range E.length).all p = false := by
          rw [Bool.eq_false_iff, ne_eq, List.all_eq_true]
          intro h
          rw [h r (List.mem_range.2 hrl)] at hpr
          cases hpr
        go_wp2
        go_ret
        exact ⟨by rw [hall]; rfl, Hb2.out⟩
      · rw [hpr] at hs
        have Hs := Lib.hid hs
        clear hs
        go_wp2
        go_roundw
        case rel => exact ⟨r + 1, by go_num, by omega, Hb2.out, Hs.out⟩
        case measure => simp [intOf]; omega
    · obtain rfl : r = E.length := by omega
      have hrl' : ¬ ((E.length : Int) < (E.length : Int)) := by omega
      go_wp2
      go_ret
      exact ⟨by rw [Hp.out]; rfl, Hb.out⟩
def comB (E : List M) : Bool := (List.range E.length).all (centB E)
def comR (ms : List M) : Bool := decide (elC ms [] = 0) && comB (elR ms [])
theorem ImplCom_any (A : Option Addr) (n c : Nat) (ms : List M) (w : World) (hx : RdM w w.heap.size A ms) (hn : ms.length = n) (hA : A = none → n = 0 ∧ c = 0) (hb : n < 536870912) :
    Calls Tryz.prog 20 #[.slice A n c] w fun e w' => e = .returned (.tuple #[.bool (comR ms), I (elC ms [])]) ∧ Below w.heap.size w w' := by
  have Hx := Lib.hid hx
  have Hn := Lib.hid hn
  have HA := Lib.hid hA
  have hcc := monC_nil ms
  have eg : ∀ args w, (callFunc 63 args).run Tryz.prog w = .ok (.enter 63 args) w := enters_of Tryz.func63 (by kernel_rfl) rfl
  have Heg := Lib.hid eg
  clear hx hn hA eg
  by_cases hc : elC ms [] = 0
  · obtain ⟨E, ps, hE⟩ := elC_el hc
    have HE := Lib.hid hE
    have hlen := hE.len
    have hpos := hE.pos
    have hR : comR ms = comB E := by unfold comR; rw [decide_eq_true hc, Bool.true_and, hE.r]
    have HR := Lib.hid hR
    rw [hc] at hcc
    have Hc := Lib.hid hc
    have Hcc := Lib.hid hcc
    clear hE hc hcc hR
    go_enter Tryz.func20, Tryz.ntmps20
    go_wp2_with fail
    refine (monoidOf_any A none n c 0 0 ms [] _ Hx.out Rd.nil_ Hn.out rfl HA.out (fun _ => ⟨rfl, rfl⟩) (by omega)).mono ?_
    rintro e w1 ⟨r, v, rfl, hb1, hr0, hs⟩
    obtain ⟨g, rfl, hM, _⟩ := hs ps HE.out.clo Hcc.out
    rw [← HE.out.eq] at hM
    rw [Hcc.out]
    have HM := Lib.hid hM
    have Hb1 := Lib.hid hb1
    clear hM hs hb1 hr0
    go_wp2_with fail
    refine (allB_any 63 (centB E) w1 HM.out hpos hlen Heg.out fun w' hb' i hi => isCentral_any i w' (HM.out.below hb' (Nat.le_refl _)) hlen HE.out.mnd hi).mono ?_
    rintro e w2 ⟨rfl, hb2⟩
    have Hb2 := Lib.hid (Hb1.out.trans (hb2.mono Hb1.out.size))
    have HR2 : Hid (comR ms = (List.range E.length).all (centB E)) := HR.out
    clear hb2
    go_wp2
    go_ret2
    exact ⟨by rw [HR2.out, Hc.out] <;> rfl, Hb2.out⟩
  · have hR : comR ms = false := by unfold comR; rw [decide_eq_false hc]; rfl
    have HR := Lib.hid hR
    have Hcc := Lib.hid hcc
    obtain ⟨p0, p4⟩ := elC_p hc
    have hne : (elC ms [] == 0) = false := by simpa using hc
    clear hc hcc hR
    go_enter Tryz.func20, Tryz.ntmps20
    go_wp2_with fail
    refine (monoidOf_any A none n c 0 0 ms [] _ Hx.out Rd.nil_ Hn.out rfl HA.out (fun _ => ⟨rfl, rfl⟩) (by omega)).mono ?_
    rintro e w1 ⟨r, v, rfl, hb1, hr0, hs⟩
    rw [Hcc.out]
    have Hb := Lib.hid hb1
    clear hb1 hs hr0
    go_wp2
    go_ret2
    exact ⟨by rw [HR.out] <;> rfl, Hb.out⟩
/-! ### a list and one map -/
end Go.Proofs.YtchjegojcpbfpaaGreat

namespace Go.Proofs.YtchjegojcpbfpaaGreat
open Go.RowKit
set_option maxRecDepth 100000
set_option linter.unusedSimpArgs false
theorem RdM.six {w : World} {B b off : Nat} {E : List M} (h : RdM w B (some ⟨b, off, none⟩) E) {k : Nat} (hk : k < E.length) : SixAt w b (off + k * 6) (gm E k) ∧ b < B := by
  obtain ⟨b', off', e, hb, h6⟩ := RdM.at_ h hk
  injection e with e
  injection e with e1 e2 _
  subst e1 e2
  exact ⟨h6, hb⟩
theorem take_gm {E : List M} {r : Nat} (h : r < E.length) : E.take (r + 1) = E.take r ++ [gm E r] := by
  rw [List.take_add_one, gm_eq h, List.getElem?_eq_getElem h]; rfl
theorem filter_take {E : List M} {P : M → Bool} {r : Nat} (h : r < E.length) : (E.take (r + 1)).filter P = (E.take r).filter P ++ if P (gm E r) then [gm E r] else [] := by
  rw [take_gm h, List.filter_append]
  cases hp : P (gm E r) <;> simp [hp]
theorem filter_len (E : List M) (P : M → Bool) (r : Nat) : ((E.take r).filter P).length ≤ E.length :=
  Nat.le_trans (List.length_filter_le _ _) (by rw [List.length_take]; omega)
end Go.Proofs.YtchjegojcpbfpaaGreat
